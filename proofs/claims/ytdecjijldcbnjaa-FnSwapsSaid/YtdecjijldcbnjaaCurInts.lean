/-
  The reader of choices: values with weights.
-/
import Derived.Test.YtdecjijldcbnjaaCur
import Derived.Test.YtdecjijldcbnjaaGrowA
import Derived.Deep.CutRange
namespace Go.Proofs.Ytdecjijldcbnjaa
open Go.RowKit
set_option linter.unusedVariables false
set_option linter.unusedSimpArgs false
set_option maxRecDepth 100000

theorem Grow.keptBy {α : Type} {enc : α → List Value} {w w' : World} {base : Nat} {e : TypeId} {size : Nat} {v : Value} {l : List α} {o : Option Nat} (h : Grow w base e size enc v l) (hg : w.grownBy w' o) (hne : ∀ g, v.ownBlock = some g → some g ≠ o) : Grow w' base e size enc v l := by
  have hlt := h.block_lt
  refine ⟨h.1, ?_⟩
  rcases h.2 with ⟨h1, h2⟩ | ⟨g, cap, cur, h1, h2, h3, h4⟩
  · exact .inl ⟨h1, h2⟩
  · have e1 : v.ownBlock = some g := by rw [h1]; rfl
    exact .inr ⟨g, cap, cur, h1, h2, (hg.block g (hlt g e1) (hne g e1)).trans h3, h4⟩
theorem Grow.turn {α : Type} {enc : α → List Value} {w w' : World} {base : Nat} {e : TypeId} {size : Nat} {v : Value} {l : List α} {g0 : Nat} (h : Grow w base e size enc v l) (hg : Turn g0 w w') (hb : g0 < base) : Grow w' base e size enc v l := by
  have hlt := h.block_lt
  refine ⟨h.1, ?_⟩
  rcases h.2 with ⟨h1, h2⟩ | ⟨g, cap, cur, h1, h2, h3, h4⟩
  · exact .inl ⟨h1, h2⟩
  · have e1 : v.ownBlock = some g := by rw [h1]; rfl
    exact .inr ⟨g, cap, cur, h1, h2, (hg.block g (hlt g e1) (by omega)).trans h3, h4⟩
theorem Turn.thenB {g : Nat} {a b c : World} (h : Turn g a b) (k : Below a.heap.size b c) : Turn g a c :=
  ⟨k.os.trans h.os, k.tape.trans h.tape, k.output.trans h.output, Nat.le_trans h.size k.size, fun i hi hr => (k.block i hi).trans (h.block i hi hr)⟩
/-- Two slices of the call's own lie apart. -/
def Apart (a b : Value) : Prop := ∀ g, a.ownBlock = some g → some g ≠ b.ownBlock
theorem Apart.swap {a b : Value} (h : Apart a b) : Apart b a := fun g hg e => h g (e.symm.trans rfl) hg.symm
theorem Apart.grow {a b a' : Value} {m : Nat} (h : Apart a b) (hb : ∀ g, b.ownBlock = some g → g < m) (ha : a'.ownBlock = a.ownBlock ∨ a'.ownBlock = some (m + 1)) : Apart a' b := by
  intro g hg e
  rcases ha with ha | ha
  · exact h g (ha ▸ hg) e
  · rw [ha] at hg
    have := hb g e.symm
    injection hg with hg
    omega
theorem RdL.tail1 {w : World} {b g o : Nat} {y : Int} {l : List Int} (h : RdL w b (some ⟨g, o, none⟩) 1 encInt (y :: l)) : RdL w b (some ⟨g, o + 1, none⟩) 1 encInt l := by
  rcases h with h | ⟨g', off, hA, hg, hc⟩
  · cases h
  · injection hA with hA; injection hA with h1 h2
    subst h1 h2
    refine .inr ⟨g, o + 1, rfl, hg, fun i hi j u hu => ?_⟩
    have := hc (i + 1) (by simpa using hi) j u (by simpa using hu)
    rw [show o + 1 + (i * 1 + j) = o + ((i + 1) * 1 + j) by omega]
    exact this
theorem RdL.set0 {w : World} {b g : Nat} {x y : Int} {l : List Int} (h : RdL w b (some ⟨g, 0, none⟩) 1 encInt (y :: l)) : RdL (w.setCell ⟨g, 0, none⟩ (.int .i64 x)) b (some ⟨g, 0, none⟩) 1 encInt (x :: l) := by
  rcases h with h | ⟨g', off, hA, hg, hc⟩
  · cases h
  · injection hA with hA; injection hA with h1 h2
    subst h1 h2
    refine .inr ⟨g, 0, rfl, hg, fun i hi j u hu => ?_⟩
    have hj : j = 0 := by
      have := (List.getElem?_eq_some_iff.1 hu).1
      simp [encInt] at this; omega
    subst hj
    cases i with
    | zero =>
      have h0 := hc 0 (by simp) 0 _ rfl
      simp [encInt] at hu h0
      subst hu
      exact World.cell?_setCell_same _ _ _ (by simpa using h0)
    | succ i =>
      have h0 := hc (i + 1) (by simpa using hi) 0 u (by simpa using hu)
      rw [World.cell?_setCell_other _ _ _ _ (fun e => by injection e with _ e; omega)]
      exact h0
theorem RdL.setOther {w : World} {b : Nat} {A : Option Addr} {l : List Int} {p : Addr} {u : Value} (h : RdL w b A 1 encInt l) (hne : ∀ g off, A = some ⟨g, off, none⟩ → g ≠ p.block) : RdL (w.setCell p u) b A 1 encInt l := by
  rcases h with h | ⟨g, off, rfl, hg, hc⟩
  · exact .inl h
  · exact .inr ⟨g, off, rfl, hg, fun i hi j v hv => (World.cell?_setCell_other _ _ _ _ (fun e => hne g off rfl (congrArg Addr.block e).symm)).trans (hc i hi j v hv)⟩
theorem RdL.turn {w w' : World} {b g : Nat} {A : Option Addr} {l : List Int} (h : RdL w b A 1 encInt l) (ht : Turn g w w') (hb : b ≤ w.heap.size) (hne : ∀ q off, A = some ⟨q, off, none⟩ → q ≠ g) : RdL w' b A 1 encInt l := by
  rcases h with h | ⟨q, off, rfl, hg, hc⟩
  · exact .inl h
  · exact .inr ⟨q, off, rfl, hg, fun i hi j v hv => (ht.cell (p := ⟨q, _, none⟩) (Nat.lt_of_lt_of_le hg hb) (hne q off rfl)).trans (hc i hi j v hv)⟩

set_option maxHeartbeats 3200000 in
theorem weighted_any (g K : Nat) (w : World) (h : Cur w g K) (hK : K ≤ 100000) :
    Calls Try.prog 135 #[.pointer (some ⟨g, 0, none⟩)] w fun e w' => ∃ (A A' : Option Addr) (c c' : Nat) (vs ws : List Int), e = .returned (.tuple #[.slice A vs.length c, .slice A' ws.length c']) ∧ vs.length ≤ 7 ∧ ws.length ≤ 7 ∧ RdL w' w'.heap.size A 1 encInt vs ∧ RdL w' w'.heap.size A' 1 encInt ws ∧ (∀ q off, A = some ⟨q, off, none⟩ → q ≠ g) ∧ (∀ q off, A' = some ⟨q, off, none⟩ → q ≠ g) ∧ Cur w' g (K + 40) ∧ Turn g w w' := by
  have H := Lib.hid h
  have hgw := h.lt
  clear h
  go_enter Try.func135, Try.ntmps135
  go_upto_region 3 with (go_at_call 148; refine (pick_any g K 7 _ H.out (by omega) (by omega)).mono ?_; rintro e w1 ⟨x, rfl, hx0, hx1, hc, ht⟩; have HC1 := Lib.hid hc; have HT1 := Lib.hid ht; clear hc ht; obtain ⟨k, rfl⟩ : ∃ k : Nat, x = (k : Int) := ⟨x.toNat, by omega⟩; have hk : k < 7 := (by omega))
  go_loopw [4, 5, 6] (fun a b i wr => ∃ (n : Nat) (vs ws : List Int), i = .int .i64 (n : Int) ∧ vs.length + n ≤ 7 ∧ 1 ≤ vs.length + n ∧ ws.length = vs.length ∧ Grow wr w.heap.size 3 1 encInt a vs ∧ Grow wr w.heap.size 3 1 encInt b ws ∧ Apart a b ∧ Cur wr g (K + 2 + 4 * (7 - n)) ∧ Turn g w wr) (fun _ _ i _ => (intOf i).toNat)
  case atStart => exact ⟨k + 1, [], [], by go_num, by simp; omega, by simp, rfl, Grow.nil, Grow.nil, fun g hg => by simp [Value.ownBlock] at hg, HC1.out.more (by omega), HT1.out⟩
  case round =>
    obtain ⟨n, vs, ws, rfl, hn7, hn1, hlen, hga, hgb, hap, hcu, htu⟩ := hrel
    have HGa := Lib.hid hga
    have HGb := Lib.hid hgb
    have HAp := Lib.hid hap
    have HCu := Lib.hid hcu
    have HTu := Lib.hid htu
    have hsz := htu.size
    clear hga hgb hap hcu htu
    by_cases hn : 0 < n
    · have d1 : decide ((0 : Int) < (n : Int)) = true := by simp; omega
      go_wp2_with (first
        | (go_at_call 109; refine (among_any g (K + 2 + 4 * (7 - n)) wr.heap.size 8 8 _ (fun _ => True) _ (HCu.out.later ((Below.refl _ _).alloc (Nat.le_refl _) _)) (by omega) (by omega) (by omega) (Cells.lit wr _ _ 8 rfl) (by have := HCu.out.lt; omega) (by intro k hk; rcases k with _ | _ | _ | _ | _ | _ | _ | _ | k <;> first | exact ⟨_, rfl, trivial⟩ | omega)).mono ?_; rintro e w2 ⟨x, rfl, _, hc, ht⟩; have HC2 := Lib.hid hc; have HT2 := Lib.hid ((Turn.of ((Below.refl _ _).alloc (Nat.le_refl _) _)).trans ht); clear hc ht; have hs2 := HT2.out.size; have HGa2 := Lib.hid (HGa.out.turn HT2.out hgw); have HGb2 := Lib.hid (HGb.out.turn HT2.out hgw))
        | ((at_builtin; refine wpList_pushA rfl (.tmp 14) (.tmp 18) 28 rfl w.heap.size 3 _ 1 8 encInt rfl Int_info rfl (by omega) u4 vs [x] 1 rfl rfl (by simp) HGa2.out rfl encInt_len (by simp [Value.oneCell']) (by simp only [List.length_singleton]; omega) (by omega) (by omega) ?_; intro av aw ag ab agb ak); have HC3 := Lib.hid (HC2.out.keep ab hgw); have HGa3 := Lib.hid ag; have HGb3 := Lib.hid (HGb2.out.keptBy agb HAp.out.swap); have HA3 := Lib.hid (HAp.out.grow HGb2.out.block_lt ak); have HB3 := Lib.hid ab; clear ag ab agb ak; have hs3 := HB3.out.size)
        | (go_at_call 148; refine (pick_any g _ 4 _ HC3.out (by omega) (by omega)).mono ?_; rintro e w4 ⟨y, rfl, hy0, hy1, hc, ht⟩; have HC4 := Lib.hid hc; have HT4 := Lib.hid ht; clear hc ht; have hs4 := HT4.out.size; have HGa4 := Lib.hid (HGa3.out.turn HT4.out hgw); have HGb4 := Lib.hid (HGb3.out.turn HT4.out hgw))
        | (at_builtin; refine wpList_pushA rfl (.tmp 20) (.tmp 24) 28 rfl w.heap.size 3 _ 1 8 encInt rfl Int_info rfl (by omega) u5 ws [1 + y] 1 rfl rfl (by simp) HGb4.out rfl encInt_len (by simp [Value.oneCell']) (by simp only [List.length_singleton]; omega) (by omega) (by omega) ?_; intro bv bw bg bb bgb bk))
      have HAq := Lib.hid ((HA3.out.swap.grow HGa4.out.block_lt bk).swap)
      have HGa5 := Lib.hid (HGa4.out.keptBy bgb HA3.out)
      have HC5 := Lib.hid (HC4.out.keep bb hgw)
      have HTu5 : Hid (Turn g w bw) := Lib.hid ((((HTu.out.trans HT2.out).thenB HB3.out).trans HT4.out).thenB bb)
      go_roundw
      case rel => exact ⟨n - 1, vs ++ [x], ws ++ [1 + y], by go_num, by simp; omega, by simp; omega, by simp; omega, HGa5.out, bg, HAq.out, HC5.out.more (by omega), HTu5.out⟩
      case measure => simp [intOf]; omega
    · obtain rfl : n = 0 := by omega
      have hw1 : 1 ≤ ws.length := by omega
      have hw7 : ws.length ≤ 7 := by omega
      have hv1 : 1 ≤ vs.length := by omega
      have hv7 : vs.length ≤ 7 := by omega
      clear hlen hn7 hn1 hn
      have hlo := HGa.out.own encInt_len
      obtain ⟨A, cA, rfl, hoa⟩ := hlo
      obtain ⟨A', cB, rfl, hob⟩ := HGb.out.own encInt_len
      have HOa := Lib.hid hoa
      have HOb := Lib.hid hob
      clear hoa hob
      go_upto_region 8 with (go_at_call 148; refine (pick_any g _ 20 _ HCu.out (by omega) (by omega)).mono ?_; rintro e w5 ⟨x, rfl, hx0, hx1, hc, ht⟩; have HC5 := Lib.hid hc; have HT5 := Lib.hid ht; clear hc ht)
      have HTw := Lib.hid (HTu.out.trans HT5.out)
      have hs5 := HT5.out.size
      have HRa := Lib.hid ((HOa.out.chg HT5.out (.inr hgw)).rd encInt_len)
      have HRb := Lib.hid ((HOb.out.chg HT5.out (.inr hgw)).rd encInt_len)
      have hnA : ∀ q off, A = some ⟨q, off, none⟩ → q ≠ g := fun q off e => by obtain ⟨q', _, hA, hq, _⟩ := HOa.out.cells (by omega); rw [hA] at e; injection e with e; injection e with e; omega
      have hnB : ∀ q off, A' = some ⟨q, off, none⟩ → q ≠ g := fun q off e => by obtain ⟨q', _, hA, hq, _⟩ := HOb.out.cells (by omega); rw [hA] at e; injection e with e; injection e with e; omega
      have HnA := Lib.hid hnA
      have HnB := Lib.hid hnB
      clear hnA hnB
      have hK9 : K + 2 + 4 * (7 - 0) + 2 ≤ K + 38 := by omega
      by_cases e0 : x = 0
      · subst e0
        obtain ⟨gb, fb, hA', hgb1, hgb2, hcl⟩ := (HOb.out.chg HT5.out (.inr hgw)).cells (by omega)
        subst hA'
        have HCl := Lib.hid hcl
        have hgs : gb < w5.heap.size := by omega
        have dl : decide ((0 : Int) < (ws.length : Int)) = true := by simp; omega
        clear hcl
        go_wp2_with (go_at_call 109; refine (among_any g (K + 2 + 4 * (7 - 0) + 2) w5.heap.size 3 3 _ (fun _ => True) _ (HC5.out.later ((Below.refl _ _).alloc (Nat.le_refl _) _)) (by omega) (by omega) (by omega) (Cells.lit w5 _ _ 3 rfl) (by have := HC5.out.lt; omega) (by intro k hk; rcases k with _ | _ | _ | k <;> first | exact ⟨_, rfl, trivial⟩ | omega)).mono ?_; rintro e w6 ⟨x6, rfl, _, hc, ht⟩; have HC6 := Lib.hid hc; have HT6 := Lib.hid ((Turn.of ((Below.refl _ _).alloc (Nat.le_refl _) _)).trans ht); clear hc ht; have hcl6 := HCl.out.chg HT6.out (.inr (by omega)); have HCl6 := Lib.hid hcl6; have q0 := hcl6.cell (i := 0) (by omega); have q1 := hcl6.free (i := 0) (by omega); have hs6 := HT6.out.size; clear hcl6)
        go_ret2
        obtain ⟨y, wt, rfl⟩ : ∃ y wt, ws = y :: wt := by cases ws with | nil => simp at hw1 | cons y wt => exact ⟨y, wt, rfl⟩
        have hne : ∀ ga off, A = some ⟨ga, off, none⟩ → ga ≠ gb := fun ga off hA e => by subst hA e; exact HAp.out ga rfl rfl
        refine ⟨A, _, cA, cB, vs, x6 :: wt, rfl, by omega, by simpa using hw7, ?_, ?_, HnA.out, HnB.out, ?_, ?_⟩
        · exact (((HOa.out.chg HT5.out (.inr hgw)).chg HT6.out (.inr hgw)).rd encInt_len).setOther hne |>.more (by simp)
        · exact (((HOb.out.chg HT5.out (.inr hgw)).chg HT6.out (.inr hgw)).rd encInt_len).set0 |>.more (by simp)
        · exact (HC6.out.keep ((Below.refl w.heap.size _).setCell (p := ⟨gb, 0, none⟩) hgb1 _) hgw).more (by omega)
        · exact (HTw.out.trans HT6.out).thenB ((Below.refl w.heap.size _).setCell (p := ⟨gb, 0, none⟩) hgb1 _)
      · by_cases e1 : x = 1
        · subst e1
          have dl : decide ((1 : Int) ≤ (vs.length : Int)) = true := by simp; omega
          obtain ⟨ga, fa, hA', hga1, hga2, hcl⟩ := (HOa.out.chg HT5.out (.inr hgw)).cells (by omega)
          subst hA'
          obtain ⟨y, vt, rfl⟩ : ∃ y vt, vs = y :: vt := by cases vs with | nil => simp at hv1 | cons y vt => exact ⟨y, vt, rfl⟩
          have HRt := Lib.hid (HRa.out.tail1)
          have hvl : (y :: vt).length - 1 = vt.length := by simp
          go_wp2
          · go_ret2
            have hcap : vt.length + 1 ≤ cA := by
              rcases HGa.out.2 with ⟨h1, _⟩ | ⟨g1, cap, cur, h1, _, _, h4, _⟩
              · cases h1
              · injection h1 with _ h2 h3; subst h3; simpa using h4
            obtain rfl : vt = [] := List.eq_nil_of_length_eq_zero (by omega)
            exact ⟨_, A', 0, cB, [], ws, rfl, by simp, by omega, RdL.nil, HRb.out, (fun q off e => HnA.out q 0 (by injection e with e; injection e with e1 e2; subst e1; rfl)), HnB.out, HC5.out.more (by omega), HTw.out⟩
          · go_ret2
            exact ⟨_, A', cA - 1, cB, vt, ws, rfl, by simp at hv7; omega, by omega, HRt.out, HRb.out, (fun q off e => HnA.out q 0 (by injection e with e; injection e with e1 e2; subst e1; rfl)), HnB.out, HC5.out.more (by omega), HTw.out⟩
        · go_wp2
          go_ret2
          exact ⟨A, A', cA, cB, vs, ws, rfl, by omega, by omega, HRa.out, HRb.out, HnA.out, HnB.out, HC5.out.more (by omega), HTw.out⟩
end Go.Proofs.Ytdecjijldcbnjaa
