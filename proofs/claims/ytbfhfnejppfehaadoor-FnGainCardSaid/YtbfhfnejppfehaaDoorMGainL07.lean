import Derived.Test.YtbfhfnejppfehaaDoorMGainL05
import Derived.Test.YtbfhfnejppfehaaDoorMGainL06
/-
  The reader of choices: people (under way).
-/
namespace Go.Proofs.YtbfhfnejppfehaaDoor
open Go.RowKit
set_option linter.unusedVariables false
set_option linter.unusedSimpArgs false
set_option maxRecDepth 100000

/-- Own slices of two element types lie apart. -/
theorem own_types {w : World} {b b' e e' size size' n n' : Nat} {v v' : Value} {xs xs' : List Value} (h : w.ownsRow b e size v n xs) (h' : w.ownsRow b' e' size' v' n' xs') (hne : e ≠ e') : Apart v v' := by
  intro g hg hg'
  rcases h.2 with ⟨rfl, _⟩ | ⟨q, cap, cur, rfl, _, hq, _⟩
  · simp [Value.ownBlock] at hg
  · rcases h'.2 with ⟨rfl, _⟩ | ⟨q', cap', cur', rfl, _, hq', _⟩
    · simp [Value.ownBlock] at hg'
    · simp [Value.ownBlock] at hg hg'
      have : q = q' := by omega
      subst this
      rw [hq] at hq'
      injection hq' with hq'
      injection hq' with _ h2 _
      exact hne h2
/-- A slice's block is not block g. -/
def NotAt (A : Option Addr) (g : Nat) : Prop := ∀ q off, A = some ⟨q, off, none⟩ → q ≠ g
theorem RdL.turnA {α : Type} {enc : α → List Value} {size : Nat} {w w' : World} {b g : Nat} {A : Option Addr} {l : List α} (h : RdL w b A size enc l) (ht : Turn g w w') (hb : b ≤ w.heap.size) (hne : NotAt A g) : RdL w' b A size enc l := by
  rcases h with h | ⟨q, off, rfl, hg, hc⟩
  · exact .inl h
  · exact .inr ⟨q, off, rfl, hg, fun i hi j v hv => (ht.cell (p := ⟨q, _, none⟩) (Nat.lt_of_lt_of_le hg hb) (hne q off rfl)).trans (hc i hi j v hv)⟩
/-- People in memory, away from the reader. -/
def AwP (w : World) (g : Nat) (A : Option Addr) (D : List Psn) : Prop := RdNP w w.heap.size A D ∧ NotAt A g ∧ ∀ d ∈ D, NotAt d.A g
theorem AwP.turn {w w' : World} {g : Nat} {A : Option Addr} {D : List Psn} (h : AwP w g A D) (t : Turn g w w') : AwP w' g A D :=
  ⟨⟨(h.1.1.turnA t (Nat.le_refl _) h.2.1).more t.size, fun d hd => ((h.1.2 d hd).turnA t (Nat.le_refl _) (h.2.2 d hd)).more t.size⟩, h.2⟩
theorem AwP.later {w w' : World} {g : Nat} {A : Option Addr} {D : List Psn} (h : AwP w g A D) (t : Below w.heap.size w w') : AwP w' g A D := h.turn (Turn.of t)
theorem AwP.rdP {w : World} {g : Nat} {A : Option Addr} {D : List Psn} (h : AwP w g A D) : RdP w w.heap.size A (D.map Psn.key) := ⟨D, rfl, h.1⟩
theorem Grow.lo {α : Type} {enc : α → List Value} {w : World} {base base' : Nat} {e : TypeId} {size : Nat} {v : Value} {l : List α} (h : Grow w base e size enc v l) (hb : base' ≤ base) : Grow w base' e size enc v l := by
  refine ⟨h.1, ?_⟩
  rcases h.2 with h1 | ⟨g, cap, cur, h1, h2, h3⟩
  · exact .inl h1
  · exact .inr ⟨g, cap, cur, h1, Nat.le_trans hb h2, h3⟩
theorem Grow.notAt {α : Type} {enc : α → List Value} {w : World} {base g : Nat} {e : TypeId} {size : Nat} {A : Option Addr} {n c : Nat} {l : List α} (h : Grow w base e size enc (.slice A n c) l) (hg : g < base) : NotAt A g := by
  intro q off hA
  subst hA
  rcases h.2 with ⟨h1, _⟩ | ⟨q', cap, cur, h1, h2, _⟩
  · cases h1
  · injection h1 with h1 _ _; injection h1 with h1; injection h1 with h1 _ _; omega
/-- The people as they stand when all are drawn. -/
theorem AwP.of {w : World} {g base c : Nat} {A : Option Addr} {D : List Psn} (h : Grow w base 84 2 Psn.enc (.slice A D.length c) D) (hi : ∀ d ∈ D, Grow w base 3 1 encInt (.slice d.A d.x.length d.c) d.x) (hg : g < base) : AwP w g A D := by
  refine ⟨⟨?_, fun d hd => ?_⟩, h.notAt hg, fun d hd => (hi d hd).notAt hg⟩
  · obtain ⟨A', c', e, ho⟩ := h.own Psn_enc_len
    injection e with e1 _ _
    subst e1
    exact ho.rd Psn_enc_len
  · obtain ⟨A', c', e, ho⟩ := (hi d hd).own encInt_len
    injection e with e1 _ _
    subst e1
    exact ho.rd encInt_len
/-- After a store of an int a list of ints reads as some list of ints. -/
theorem RdL.setInt {w : World} {b : Nat} {A : Option Addr} {l : List Int} {p : Addr} {v : Int} (h : RdL w b A 1 encInt l) : ∃ l' : List Int, l'.length = l.length ∧ RdL (w.setCell p (.int .i64 v)) b A 1 encInt l' := by
  rcases h with rfl | ⟨q, off, rfl, hg, hc⟩
  · exact ⟨[], rfl, .inl rfl⟩
  · have hx : ∀ i, i < l.length → ∃ x : Int, (w.setCell p (.int .i64 v)).cell? ⟨q, off + i, none⟩ = some (.int .i64 x) := fun i hi => by
      have h0 := hc i hi 0 _ rfl
      rw [Nat.mul_one, Nat.add_zero] at h0
      by_cases e : p = ⟨q, off + i, none⟩
      · subst e; exact ⟨v, World.cell?_setCell_same _ _ _ h0⟩
      · exact ⟨l[i], (World.cell?_setCell_other _ _ _ _ (fun x => e x)).trans h0⟩
    obtain ⟨l', hl, hl'⟩ := choose_list (fun i (x : Int) => (w.setCell p (.int .i64 v)).cell? ⟨q, off + i, none⟩ = some (.int .i64 x)) l.length hx
    refine ⟨l', hl, .inr ⟨q, off, rfl, hg, fun i hi j u hu => ?_⟩⟩
    have hj : j = 0 := by have := (List.getElem?_eq_some_iff.1 hu).1; simp [encInt] at this; omega
    subst hj
    simp [encInt] at hu
    subst hu
    rw [Nat.mul_one, Nat.add_zero]
    exact hl' i hi
theorem AwP.setName {w : World} {g gA b c : Nat} {D : List Psn} (h : AwP w g (some ⟨gA, 0, none⟩) D) (ho : OwnL w b c (some ⟨gA, 0, none⟩) 2 Psn.enc D) (hap : ∀ d ∈ D, NotAt d.A gA) (h0 : 0 < D.length) (s : ByteArray) :
    AwP (w.setCell ⟨gA, 0, none⟩ (.string s)) g (some ⟨gA, 0, none⟩) (D.set 0 ⟨s, D[0].x, D[0].A, D[0].c⟩) := by
  have hs : (w.setCell ⟨gA, 0, none⟩ (.string s)).heap.size = w.heap.size := by simp
  have key : ∀ d ∈ D, RdL (w.setCell ⟨gA, 0, none⟩ (.string s)) (w.setCell ⟨gA, 0, none⟩ (.string s)).heap.size d.A 1 encInt d.x := fun d hd => ((h.1.2 d hd).setOther (fun q off e => hap d hd q off e)).more (Nat.le_of_eq hs.symm)
  refine ⟨⟨?_, fun d hd => ?_⟩, h.2.1, fun d hd => ?_⟩
  · have := (ho.setName 0 h0 s).rd Psn_enc_len
    rw [Nat.zero_mul] at this
    exact this
  · rcases List.mem_or_eq_of_mem_set hd with hd | rfl
    · exact key d hd
    · exact key D[0] (List.getElem_mem h0)
  · rcases List.mem_or_eq_of_mem_set hd with hd | rfl
    · exact h.2.2 d hd
    · exact h.2.2 D[0] (List.getElem_mem h0)
theorem RdL.setFar {α : Type} {enc : α → List Value} {size : Nat} {w : World} {b : Nat} {A : Option Addr} {l : List α} {p : Addr} {u : Value} (h : RdL w b A size enc l) (hne : NotAt A p.block) : RdL (w.setCell p u) b A size enc l := by
  rcases h with h | ⟨g, off, rfl, hg, hc⟩
  · exact .inl h
  · exact .inr ⟨g, off, rfl, hg, fun i hi j v hv => (World.cell?_setCell_other _ _ _ _ (fun e => hne g off rfl (congrArg Addr.block e).symm)).trans (hc i hi j v hv)⟩
theorem list_pick {α β : Type} (D : List α) (R : α → β → Prop) (h : ∀ d ∈ D, ∃ e, R d e) : ∃ E : List β, E.length = D.length ∧ ∀ (i : Nat) (h1 : i < D.length) (h2 : i < E.length), R D[i] E[i] := by
  induction D with
  | nil => exact ⟨[], rfl, fun i h1 => by simp at h1⟩
  | cons d D ih =>
    obtain ⟨e, he⟩ := h d (by simp)
    obtain ⟨E, hl, hE⟩ := ih fun d hd => h d (by simp [hd])
    refine ⟨e :: E, by simp [hl], fun i h1 h2 => ?_⟩
    cases i with
    | zero => exact he
    | succ i => exact hE i (by simpa using h1) (by simpa using h2)
/-- After a store of an int away from the outer block the people read as some people with as many skills. -/
theorem AwP.setInt {w : World} {g : Nat} {A : Option Addr} {D : List Psn} {p : Addr} {v : Int} (h : AwP w g A D) (hA : NotAt A p.block) :
    ∃ E : List Psn, E.length = D.length ∧ (∀ e ∈ E, ∃ d ∈ D, e.name = d.name ∧ e.x.length = d.x.length) ∧ AwP (w.setCell p (.int .i64 v)) g A E := by
  have hs : (w.setCell p (.int .i64 v)).heap.size = w.heap.size := by simp
  obtain ⟨E, hl, hE⟩ := list_pick D (fun d e => Psn.enc e = Psn.enc d ∧ e.name = d.name ∧ e.x.length = d.x.length ∧ e.A = d.A ∧ RdL (w.setCell p (.int .i64 v)) w.heap.size e.A 1 encInt e.x) (fun d hd => by
    obtain ⟨x', hx, hr⟩ := (h.1.2 d hd).setInt (p := p) (v := v)
    exact ⟨⟨d.name, x', d.A, d.c⟩, by simp [Psn.enc, hx], rfl, hx, rfl, hr⟩)
  have hmem : ∀ e ∈ E, ∃ d ∈ D, e.name = d.name ∧ e.x.length = d.x.length ∧ e.A = d.A ∧ RdL (w.setCell p (.int .i64 v)) w.heap.size e.A 1 encInt e.x := fun e he => by
    obtain ⟨i, hi, rfl⟩ := List.getElem_of_mem he
    have := hE i (by omega) hi
    exact ⟨D[i]'(by omega), List.getElem_mem _, this.2⟩
  refine ⟨E, hl, fun e he => ?_, ⟨?_, fun e he => ?_⟩, h.2.1, fun e he => ?_⟩
  · obtain ⟨d, hd, h1, h2, _⟩ := hmem e he
    exact ⟨d, hd, h1, h2⟩
  · have h1 := h.1.1.setFar (u := .int .i64 v) hA
    rw [hs]
    rcases h1 with h1 | ⟨q, off, e1, hg, hc⟩
    · subst h1; exact .inl (List.eq_nil_of_length_eq_zero (by simpa using hl))
    · exact .inr ⟨q, off, e1, hg, fun i hi j u hu => hc i (by omega) j u (by rw [← (hE i (by omega) hi).1]; exact hu)⟩
  · obtain ⟨d, hd, _, _, _, h4⟩ := hmem e he
    exact h4.more (Nat.le_of_eq hs.symm)
  · obtain ⟨d, hd, _, _, h3, _⟩ := hmem e he
    rw [h3]; exact h.2.2 d hd
theorem RdL.tailN {α : Type} {enc : α → List Value} {size : Nat} {w : World} {b g o : Nat} {y : α} {l : List α} (h : RdL w b (some ⟨g, o, none⟩) size enc (y :: l)) : RdL w b (some ⟨g, o + size, none⟩) size enc l := by
  rcases h with h | ⟨g', off, hA, hg, hc⟩
  · cases h
  · injection hA with hA; injection hA with h1 h2
    subst h1 h2
    refine .inr ⟨g, o + size, rfl, hg, fun i hi j u hu => ?_⟩
    have := hc (i + 1) (by simpa using hi) j u (by simpa using hu)
    rw [show o + size + (i * size + j) = o + ((i + 1) * size + j) by rw [Nat.succ_mul]; omega]
    exact this
theorem AwP.tail {w : World} {g gA o : Nat} {y : Psn} {D : List Psn} (h : AwP w g (some ⟨gA, o, none⟩) (y :: D)) : AwP w g (some ⟨gA, o + 2, none⟩) D :=
  ⟨⟨h.1.1.tailN, fun d hd => h.1.2 d (by simp [hd])⟩, fun q off e => h.2.1 q o (by injection e with e; injection e with e1 e2; subst e1; rfl), fun d hd => h.2.2 d (by simp [hd])⟩
theorem l1LeastC_any (x y : Int) (w : World) : Calls Tryd.prog 111 #[.int .i64 x, .int .i64 y] w fun e w' => e = .returned (.int .i64 (if x < y then x else y)) ∧ w = w' := by
  by_cases h : x < y
  · rw [if_pos h]
    go_enter Tryd.func111, Tryd.ntmps111
    go_wp2
    go_ret
    exact ⟨rfl, rfl⟩
  · rw [if_neg h]
    go_enter Tryd.func111, Tryd.ntmps111
    go_wp2
    go_ret
    exact ⟨rfl, rfl⟩
theorem l1LeastT_any (x y : Int) (w : World) : Calls Tryd.prog 111 #[.int .i64 x, .int .i64 y] w fun e w' => ∃ t, e = .returned (.int .i64 t) ∧ t ≤ y ∧ (x ≤ t ∨ y ≤ t) ∧ w = w' :=
  (l1LeastC_any x y w).mono fun e w' ⟨h1, h2⟩ => ⟨_, h1, by split <;> omega, by split <;> omega, h2⟩
theorem frozen_of_turn {g b : Nat} {w w' : World} (h : Turn g w w') (hb : b < w.heap.size) (hne : b ≠ g) (i : Nat) : w'.frozen? ⟨b, i, none⟩ = w.frozen? ⟨b, i, none⟩ := by
  have := h.block b hb (by omega)
  simp only [World.frozen?, this]
/-- What people are drawn: bounds only. -/
def drawnP (D : List Psn) (n : Nat) : Prop := ∀ d ∈ D, d.x.length = n ∧ d.name.size ≤ 3
set_option maxHeartbeats 1000000 in
theorem people_any (g K : Nat) (w : World) (h : Cur w g K) (hK : K ≤ 100000) :
    Calls Tryd.prog 82 #[.pointer (some ⟨g, 0, none⟩)] w fun e w' => ∃ (A : Option Addr) (c : Nat) (D : List Psn) (n : Int), e = .returned (.tuple #[.slice A D.length c, .int .i64 n]) ∧ D.length ≤ 7 ∧ D.length ≤ c ∧ (0 ≤ n ∧ n ≤ 6) ∧ (∀ d ∈ D, d.name.size ≤ 3 ∧ d.x.length ≤ 6) ∧ AwP w' g A D ∧ Cur w' g (K + 200) ∧ Turn g w w' := by
  have H := Lib.hid h
  have hgw := h.lt
  clear h
  go_enter Tryd.func82, Tryd.ntmps82
  go_upto_region 2 with (go_at_call 110; refine (among_any g K w.heap.size 4 4 _ (fun x => 3 ≤ x ∧ x ≤ 5) _ (H.out.later ((Below.refl _ _).alloc (Nat.le_refl _) _)) (by omega) (by omega) (by omega) (Cells.lit w _ _ 4 rfl) (by omega) (by intro k hk; rcases k with _ | _ | _ | _ | k <;> first | exact ⟨_, rfl, by omega⟩ | omega)).mono ?_; rintro e w1 ⟨n, rfl, hn, hc, ht⟩; have HC1 := Lib.hid hc; have HT1 := Lib.hid ((Turn.of ((Below.refl _ _).alloc (Nat.le_refl _) _)).trans ht); clear hc ht)
  obtain ⟨hn3, hn5⟩ := hn
  go_upto_region 5 with fail
  obtain ⟨W1, hW1, HCn, HCu, HTu⟩ : ∃ W1 : World, Hid (w1.alloc (.cells #[.string ⟨#[97, 100, 97]⟩, .string ⟨#[98, 111]⟩, .string ⟨#[99, 121]⟩, .string ⟨#[100, 105]⟩, .string ⟨#[101, 100]⟩, .string ⟨#[102, 108, 111]⟩, .string ⟨#[103, 117, 115]⟩] 9) = W1) ∧ Hid (Cells W1 w1.heap.size 7 (fun i => (#[Value.string ⟨#[97, 100, 97]⟩, .string ⟨#[98, 111]⟩, .string ⟨#[99, 121]⟩, .string ⟨#[100, 105]⟩, .string ⟨#[101, 100]⟩, .string ⟨#[102, 108, 111]⟩, .string ⟨#[103, 117, 115]⟩] : Array Value).getD i undef)) ∧ Hid (Cur W1 g (K + 2)) ∧ Hid (Turn g w W1) :=
    ⟨_, Lib.hid rfl, Lib.hid (Cells.lit w1 _ _ 7 rfl), Lib.hid (HC1.out.later ((Below.refl _ _).alloc (Nat.le_refl _) _)), Lib.hid (HT1.out.trans (Turn.of ((Below.refl _ _).alloc (Nat.le_refl _) _)))⟩
  rw [hW1.out]
  have hbs := HCn.out.lt
  have hgb := HCu.out.lt
  clear hW1
  go_loopw [6, 7] (fun v i wr => ∃ (k : Nat) (D : List Psn), i = .int .i64 (k : Int) ∧ k ≤ 7 ∧ D.length = k ∧ drawnP D n.toNat ∧ Grow wr W1.heap.size 84 2 Psn.enc v D ∧ (∀ d ∈ D, Grow wr W1.heap.size 3 1 encInt (.slice d.A d.x.length d.c) d.x) ∧ Cur wr g (K + 2 + 12 * k) ∧ Turn g W1 wr) (fun _ i _ => 8 - (intOf i).toNat)
  case atStart => exact ⟨0, [], by rfl, by omega, rfl, (fun d hd => by cases hd), Grow.nil, (fun d hd => by cases hd), HCu.out, Turn.of (Below.refl _ _)⟩
  case round =>
    obtain ⟨k, D, rfl, hk7, hDl, hDr, hgo, hin, hcu, htu⟩ := hrel
    have HDr := Lib.hid hDr
    have HGo := Lib.hid hgo
    have HIn := Lib.hid hin
    have HCr := Lib.hid hcu
    have HTr := Lib.hid htu
    have hz1 := htu.size
    have HDl := Lib.hid hDl
    clear hDl hDr hgo hin hcu htu
    go_upto_region 7 with (first
      | (go_at_call 41; with_reducible show Calls _ _ #[_, Value.int .i64 3] _ _; refine (pick_any g (K + 2 + 12 * k) 3 wr HCr.out (by omega) (by omega)).mono ?_; rintro e w2 ⟨y, rfl, hy0, hy1, hc, ht⟩; have HC2 := Lib.hid hc; have HT2 := Lib.hid ht; have hz2 := ht.size; clear hc ht)
      | (go_at_call 111; refine (l1LeastT_any _ _ _).mono ?_; rintro e w3 ⟨t, rfl, ht7, ht3, rfl⟩))
    rotate_left
    · have hkt : t ≤ (k : Int) := by assumption
      have hD3 : 3 ≤ D.length := by have := HDl.out; omega
      have hD7 : D.length ≤ 7 := by have := HDl.out; omega
      have hk' : k ≤ 7 := by omega
      have hsm : Hid (∀ d ∈ D, d.name.size ≤ 3 ∧ d.x.length = n.toNat) := Lib.hid (fun d hd => ⟨(HDr.out d hd).2, (HDr.out d hd).1⟩)
      refine (pick_any g (K + 2 + 12 * k + 2) 24 w2 HC2.out (by omega) (by omega)).mono ?_
      rintro e w3 ⟨x, rfl, hx0, hx1, hc3, htn⟩
      have hgr := (HGo.out.turn HT2.out hgb).turn htn hgb
      have hin3 : ∀ d ∈ D, Grow w3 W1.heap.size 3 1 encInt (.slice d.A d.x.length d.c) d.x := fun d hd => ((HIn.out d hd).turn HT2.out hgb).turn htn hgb
      obtain ⟨A, c, hv, hoA⟩ := hgr.own Psn_enc_len
      subst hv
      have hcap := hgr.capN
      have HAw : Hid (AwP w3 g A D) := Lib.hid (AwP.of hgr hin3 hgb)
      obtain ⟨gA, f, hA, hA1, hA2, hcl⟩ := hoA.cells (by omega)
      subst hA
      have hap : Hid (∀ d ∈ D, NotAt d.A gA) := Lib.hid (fun d hd q off e => by
        have h1 := own_types (hin3 d hd) hgr (by decide) q (by rw [e]; rfl)
        intro e2; subst e2; exact h1 rfl)
      have HIn3 := Lib.hid hin3
      have HTA : Hid (Turn g w w3) := Lib.hid (((HTu.out.trans HTr.out).trans HT2.out).trans htn)
      have HC3 := Lib.hid hc3
      have HCl := Lib.hid hcl
      have HoA := Lib.hid hoA
      have hwz := HTu.out.size
      have hz3 := htn.size
      have hgA : g < gA := by omega
      clear hgr hin3 hc3 htn hcl hoA HDl HDr HGo HIn HCr HTr HC2 HT2 HTu HCn HCu HT1 HC1 H hkt
      go_upto_region 14 with fail
      have dl : decide ((0 : Int) < (D.length : Int)) = true := by simp; omega
      by_cases e0 : x = 0
      · subst e0
        go_wp2_with (go_at_call 112; refine (of_any g _ w3.heap.size 3 3 _ (fun s => s.size ≤ 3) _ (HC3.out.later ((Below.refl _ _).alloc (Nat.le_refl _) _)) (by omega) (by omega) (by omega) (Cells.lit w3 _ _ 3 rfl) (by have := HC3.out.lt; omega) (by intro k hk; rcases k with _ | _ | _ | k <;> first | exact ⟨_, rfl, by decide⟩ | omega)).mono ?_; rintro e w4 ⟨s, rfl, hs3, hc, ht⟩; have HC4 := Lib.hid hc; have HT4 := Lib.hid ((Turn.of ((Below.refl _ _).alloc (Nat.le_refl _) _)).trans ht); clear hc ht; have hcl4 := HCl.out.chg HT4.out (.inr (by omega)); have q0 := hcl4.cell (i := 0) (by omega); have q1 := hcl4.free (i := 0) (by omega); clear hcl4)
        go_ret2
        have hst := HT4.out.size
        refine ⟨_, c, D.set 0 ⟨s, D[0].x, D[0].A, D[0].c⟩, n, by simp, by simpa using hD7, by simpa using hcap, by omega, fun d hd => ?_, (HAw.out.turn HT4.out).setName (HoA.out.chg HT4.out (.inr hgb)) hap.out (by omega) s, ?_, ?_⟩
        · rcases List.mem_or_eq_of_mem_set hd with hd | rfl
          · have := hsm.out d hd; exact ⟨this.1, by omega⟩
          · have := hsm.out D[0] (List.getElem_mem (by omega)); exact ⟨hs3, by simp only; omega⟩
        · exact (HC4.out.keep ((Below.refl gA _).setCell (p := ⟨gA, 0, none⟩) (Nat.le_refl _) _) hgA).more (by omega)
        · exact (HTA.out.trans HT4.out).thenB ((Below.refl w.heap.size _).setCell (p := ⟨gA, 0, none⟩) (by simp; omega) _)
      by_cases e1 : x = 1
      · subst e1
        have hd0 : D[0].x.length = n.toNat := (hsm.out D[0] (List.getElem_mem (by omega))).2
        obtain ⟨g0, f0, hA0, hg01, hg02, hcl0⟩ := (show OwnL w3 W1.heap.size w3.heap.size D[0].A 1 encInt D[0].x from by
          obtain ⟨A9, c9, e9, ho9⟩ := (HIn3.out D[0] (List.getElem_mem (by omega))).own encInt_len
          injection e9 with e9 _ _; rw [e9]; exact ho9).cells (by omega)
        have r1 := (HoA.out.psn 0 (by omega)).2.1
        rw [hA0] at r1
        have hne0 : gA ≠ g0 := fun e => hap.out D[0] (List.getElem_mem (by omega)) g0 0 hA0 e.symm
        have HCl0 := Lib.hid hcl0
        have Hd0 := Lib.hid hd0
        have dx : decide ((0 : Int) < (D[0].x.length : Int)) = true := by simp; omega
        clear hcl0 hd0
        rw [Nat.zero_mul] at r1
        have Ham : Hid (∀ W : World, Below w3.heap.size w3 W → Cells W w3.heap.size 2 (fun i => (#[Value.int .i64 (-1), .int .i64 10] : Array Value).getD i undef) → Calls Tryd.prog 110 #[.pointer (some ⟨g, 0, none⟩), .slice (some ⟨w3.heap.size, 0, none⟩) 2 2] W fun e w' => ∃ v, e = .returned v ∧ ∃ x : Int, v = .int .i64 x ∧ Cur w' g (K + 2 + 12 * k + 2 + 2 + 2) ∧ Turn g w3 w') := Lib.hid (fun W hb hcl => (among_any g (K + 2 + 12 * k + 2 + 2) w3.heap.size 2 2 _ (fun _ => True) _ (HC3.out.later hb) (by omega) (by omega) (by omega) hcl (by have := HC3.out.lt; omega) (by intro k hk; rcases k with _ | _ | k <;> first | exact ⟨_, rfl, trivial⟩ | omega)).mono fun e w' ⟨x, he, _, hc, ht⟩ => ⟨_, he, x, rfl, hc, (Turn.of hb).trans ht⟩)
        have n0 : 0 < D.length := by omega
        have n1 : 0 < D[0].x.length := by have := Hd0.out; omega
        go_upto_region 17 with fail
        go_region_law (refine step_callsX (by rfl) 110 (by rfl) #[.pointer (some ⟨g, 0, none⟩), .slice (some ⟨w3.heap.size, 0, none⟩) 2 2] (by go_simp) (Ham.out _ (by repeat (first | exact Below.refl _ _ | refine Below.drew ?_ | refine Below.alloc ?_ (Nat.le_refl _) _)) (by first | exact Cells.lit _ _ _ 2 rfl | exact Cells.lit w3 _ 3 2 rfl)) ?_; rintro v w4 ⟨z, rfl, hc4, ht4⟩; have HC4 := Lib.hid hc4; have HT4 := Lib.hid ht4; have hz4 := ht4.size; have q1 := (ht4.cell (p := ⟨gA, 1, none⟩) hA2 (by simp; omega)).trans r1; have hcl4 := HCl0.out.chg ht4 (.inr (by omega)); have q2 := hcl4.cell (i := 0) (by omega); have q3 := hcl4.free (i := 0) (by omega); clear hc4 ht4 hcl4)
        all_goals
          clear q1 q2 q3
          go_wp2
          go_ret2
          obtain ⟨E, hE1, hE2, hE3⟩ := (HAw.out.turn HT4.out).setInt (p := ⟨g0, 0, none⟩) (v := z) (fun q off e => by injection e with e; injection e with e _ _; subst e; exact hne0)
          refine ⟨some ⟨gA, 0, none⟩, c, E, n, by rw [hE1]; rfl, by omega, by omega, by omega, fun d hd => ?_, hE3, ?_, ?_⟩
          · obtain ⟨d0, hd0, h1, h2⟩ := hE2 d hd
            have := hsm.out d0 hd0
            exact ⟨by rw [h1]; exact this.1, by omega⟩
          · exact (HC4.out.keep ((Below.refl g0 _).setCell (p := ⟨g0, 0, none⟩) (Nat.le_refl _) _) (by omega)).more (by omega)
          · exact (HTA.out.trans HT4.out).thenB ((Below.refl w.heap.size _).setCell (p := ⟨g0, 0, none⟩) (by simp; omega) _)
      by_cases e2 : x = 2
      · subst e2
        have d1 : decide ((1 : Int) ≤ (D.length : Int)) = true := by simp; omega
        have hc1 : ¬ c = 1 := by omega
        obtain ⟨y0, D2, rfl⟩ : ∃ y0 D2, D = y0 :: D2 := by cases D with | nil => simp at hD3 | cons y0 D2 => exact ⟨y0, D2, rfl⟩
        have hvl : (y0 :: D2).length - 1 = D2.length := by simp
        go_wp2
        go_ret2
        exact ⟨_, c - 1, D2, n, rfl, by simp at hD7; omega, by simp at hcap; omega, by omega, fun d hd => by have := hsm.out d (by simp [hd]); exact ⟨this.1, by omega⟩, HAw.out.tail, HC3.out.more (by omega), HTA.out⟩
      by_cases e3 : x = 3
      · subst e3
        go_wp2
        go_ret2
        exact ⟨_, c, D, n + 1, rfl, hD7, hcap, by omega, fun d hd => by have := hsm.out d hd; exact ⟨this.1, by omega⟩, HAw.out, HC3.out.more (by omega), HTA.out⟩
      · go_wp2
        go_ret2
        exact ⟨_, c, D, n, rfl, hD7, hcap, by omega, fun d hd => by have := hsm.out d hd; exact ⟨this.1, by omega⟩, HAw.out, HC3.out.more (by omega), HTA.out⟩
    have hkt : (k : Int) < t := by assumption
    have hk6 : k < 7 := by omega
    have hgn : g < w1.heap.size := HC1.out.lt
    obtain ⟨nm, hnm, hnm3⟩ : ∃ nm : ByteArray, w2.cell? ⟨w1.heap.size, k, none⟩ = some (.string nm) ∧ nm.size ≤ 3 := by
      have h0 := HCn.out.cell (i := k) (by omega)
      have h1 : w2.cell? ⟨w1.heap.size, k, none⟩ = W1.cell? ⟨w1.heap.size, k, none⟩ := (HTr.out.trans HT2.out).cell (p := ⟨w1.heap.size, k, none⟩) hbs (by simp; omega)
      rw [h1, h0]
      rcases k with _ | _ | _ | _ | _ | _ | _ | k <;> first | exact ⟨_, rfl, by decide⟩ | omega
    go_upto_region 9 with fail
    obtain ⟨bx, hbx⟩ : ∃ bx, Hid (w2.heap.size = bx) := ⟨_, Lib.hid rfl⟩
    rw [hbx.out]
    have hbz : wr.heap.size ≤ bx := by have := hbx.out; omega
    have hgx : g < bx := by omega
    obtain ⟨W5, hW5, C0, C1, F0, HC5, HT5, hs5⟩ : ∃ W5 : World, Hid (w2.alloc (.cells #[.string nm, .slice none 0 0] 84) = W5) ∧ Hid (W5.cell? ⟨bx, 0, none⟩ = some (.string nm)) ∧ Hid (W5.cell? ⟨bx, 1, none⟩ = some (.slice none 0 0)) ∧ Hid (W5.frozen? ⟨bx, 1, none⟩ = false) ∧ Hid (Cur W5 g (K + 2 + 12 * k + 2)) ∧ Hid (Turn g wr W5) ∧ bx < W5.heap.size :=
      ⟨_, Lib.hid rfl, Lib.hid (by rw [← hbx.out, World.cell?_alloc_new]; rfl), Lib.hid (by rw [← hbx.out, World.cell?_alloc_new]; rfl), Lib.hid (by rw [← hbx.out]; exact frozen_of_row _ _ _ _ _ (heap_alloc_new w2 _)), Lib.hid (HC2.out.later ((Below.refl _ _).alloc (Nat.le_refl _) _)), Lib.hid (HT2.out.then ((Below.refl _ _).alloc (Nat.le_refl _) _)), by rw [← hbx.out]; simp⟩
    rw [hW5.out]
    have dkt : decide ((k : Int) < t) = true := decide_eq_true hkt
    simp only [dkt]
    clear hW5 hnm
    obtain ⟨wo, rfl⟩ : ∃ wo, wo = wr := ⟨wr, rfl⟩
    go_loopw [9] (fun i wr => ∃ (m : Nat) (A : Option Addr) (c : Nat) (xs : List Int), i = .int .i64 (m : Int) ∧ (m : Int) ≤ n ∧ Hid (xs.length = m) ∧ Hid (wr.cell? ⟨bx, 0, none⟩ = some (.string nm)) ∧ Hid (wr.cell? ⟨bx, 1, none⟩ = some (.slice A xs.length c)) ∧ Hid (wr.frozen? ⟨bx, 1, none⟩ = false) ∧ Hid (Grow wr (bx + 1) 3 1 encInt (.slice A xs.length c) xs) ∧ Hid (Cur wr g (K + 2 + 12 * k + 2 + 2 * m)) ∧ Hid (Turn g wo wr) ∧ bx < wr.heap.size) (fun i _ => 6 - (intOf i).toNat)
    case atStart => exact ⟨0, none, 0, [], by rfl, by omega, Lib.hid rfl, C0, C1, F0, Lib.hid Grow.nil, HC5, HT5, hs5⟩
    case round =>
      obtain ⟨m, A, c, xs, rfl, hmn, hxl, D0, D1, E1, HGx, HCx, HTx, hsx⟩ := hrel
      have d1 := D1.out
      have d0 := D0.out
      have hxl7 : xs.length ≤ 5 := by have := hxl.out; omega
      by_cases hlt : (m : Int) < n
      · have Ham : Hid (∀ W : World, Below wr.heap.size wr W → Cells W wr.heap.size 6 (fun i => (#[Value.int .i64 0, .int .i64 1, .int .i64 3, .int .i64 5, .int .i64 9, .int .i64 4] : Array Value).getD i undef) → Calls Tryd.prog 110 #[.pointer (some ⟨g, 0, none⟩), .slice (some ⟨wr.heap.size, 0, none⟩) 6 6] W fun e w' => ∃ v, e = .returned v ∧ ∃ x : Int, v = .int .i64 x ∧ Cur w' g (K + 2 + 12 * k + 2 + 2 * m + 2) ∧ Turn g wr w') := Lib.hid (fun W hb hcl => (among_any g (K + 2 + 12 * k + 2 + 2 * m) wr.heap.size 6 6 _ (fun _ => True) _ (HCx.out.later hb) (by omega) (by omega) (by omega) hcl (by have := HCx.out.lt; omega) (by intro k hk; rcases k with _ | _ | _ | _ | _ | _ | k <;> first | exact ⟨_, rfl, trivial⟩ | omega)).mono fun e w' ⟨x, he, _, hc, ht⟩ => ⟨_, he, x, rfl, hc, (Turn.of hb).trans ht⟩)
        go_upto_region 11 with fail
        have Hone : Hid (∀ x : Int, ∀ u ∈ [Value.int .i64 x], u.oneCell' = true) := Lib.hid (by intro x u hu; simp at hu; subst hu; rfl)
        go_region_law (first
          | (refine step_callsX (by rfl) 110 (by rfl) #[.pointer (some ⟨g, 0, none⟩), .slice (some ⟨wr.heap.size, 0, none⟩) 6 6] (by go_simp) (Ham.out _ (by repeat (first | exact Below.refl _ _ | refine Below.drew ?_ | refine Below.alloc ?_ (Nat.le_refl _) _)) (by first | exact Cells.lit _ _ _ 6 rfl | exact Cells.lit wr _ 3 6 rfl)) ?_; rintro v w3 ⟨x, rfl, hc3, ht3⟩; have HC3 := Lib.hid hc3; have HT3 := Lib.hid ht3; have hz3 := ht3.size; have q0 := (ht3.cell (p := ⟨bx, 0, none⟩) hsx (by simp; omega)).trans D0.out; have q1 := (ht3.cell (p := ⟨bx, 1, none⟩) hsx (by simp; omega)).trans D1.out; have q2 : w3.frozen? ⟨bx, 1, none⟩ = false := (frozen_of_turn ht3 hsx (by omega) 1).trans E1.out; have q1a := (((Below.refl w3.heap.size w3).alloc (Nat.le_refl _) (.cells #[.int .i64 x] 3)).cell (p := ⟨bx, 1, none⟩) (show bx < w3.heap.size by omega)).trans q1; clear hc3 ht3)
          | (refine step_pushA rfl (.tmp 34) (.tmp 38) 42 rfl (bx + 1) 3 _ 1 8 encInt rfl Int_info rfl (by omega) (.slice A xs.length c) xs [x] 1 rfl rfl rfl (HGx.out.turn HT3.out (by omega)) rfl encInt_len (Hone.out x) (by simp) (by simp only [List.length_singleton]; omega) (by omega) (by omega) ?_; intro v' w4 hg4 hb4 hgb4 hk4; have s0 := (hb4.cell (p := ⟨bx, 0, none⟩) (Nat.lt_succ_self _)).trans q0; have s1 := (hb4.cell (p := ⟨bx, 1, none⟩) (Nat.lt_succ_self _)).trans q1; have s2 := (hb4.frozen (p := ⟨bx, 1, none⟩) (Nat.lt_succ_self _)).trans q2; obtain ⟨A4, c4, hv4, _⟩ := hg4.own encInt_len; subst hv4; have HG4 := Lib.hid hg4; have HB4 := Lib.hid hb4; clear hg4 hb4 hgb4 hk4))
        all_goals
          clear q1a
          go_wp2
          have HBs := Lib.hid ((Below.refl bx w4).setCell (p := ⟨bx, 1, none⟩) (Nat.le_refl _) (.slice A4 (xs.length + 1) c4))
          have hxe : (xs ++ [x]).length = xs.length + 1 := by simp
          go_roundw
          case rel =>
            refine ⟨m + 1, A4, c4, xs ++ [x], by go_num, by omega, Lib.hid (by have := hxl.out; simp; omega), Lib.hid ?_, Lib.hid ?_, Lib.hid ?_, Lib.hid (HG4.out.set (Nat.lt_succ_self _) _), Lib.hid ?_, Lib.hid ?_, ?_⟩
            · rw [World.cell?_setCell_other _ _ _ _ (fun e => by injection e with _ e; omega)]; exact s0
            · rw [hxe]; exact World.cell?_setCell_same _ _ _ s1
            · rw [World.frozen?_setCell]; exact s2
            · exact ((HC3.out.keep HB4.out (Nat.lt_succ_of_lt hgx)).keep HBs.out hgx).more (by omega)
            · exact ((HTx.out.trans HT3.out).thenB (HB4.out.mono (by omega))).thenB (HBs.out.mono hbz)
            · have := HB4.out.size; have := HBs.out.size; omega
          case measure => simp [intOf]; omega
      · have Hnm : Hid (n.toNat = m) := Lib.hid (by omega)
        have hD7 : D.length ≤ 7 := by have := HDl.out; omega
        go_wp2_with (at_builtin; refine wpList_pushA rfl (.tmp 41) (.tmp 43) 41 rfl W1.heap.size 84 _ 2 40 Psn.enc rfl Person_info rfl (by omega) u6 D [⟨nm, xs, A, c⟩] 1 rfl rfl (by simp) (HGo.out.turn HTx.out hgb) rfl Psn_enc_len (by simp [Value.oneCell']) (by simp only [List.length_singleton]; omega) (by omega) (by omega) ?_; intro av aw ag ab agb ak)
        have HAg := Lib.hid ag
        have HAb := Lib.hid ab
        have HAgb := Lib.hid agb
        clear ag ab agb ak
        go_roundw
        case rel =>
          have hgr := HGo.out.turn HTx.out hgb
          refine ⟨k + 1, D ++ [⟨nm, xs, A, c⟩], by go_num, by omega, by have := HDl.out; simp; omega, ?_, HAg.out, ?_, ((HCx.out.keep HAb.out hgb).more (by have := hxl.out; omega)), (HTr.out.trans HTx.out).thenB HAb.out⟩
          · intro d hd
            rcases List.mem_append.1 hd with hd | hd
            · exact HDr.out d hd
            · simp at hd; subst hd; exact ⟨by have := hxl.out; have := Hnm.out; simp only; omega, hnm3⟩
          · intro d hd
            rcases List.mem_append.1 hd with hd | hd
            · have h0 := (HIn.out d hd).turn HTx.out hgb
              exact h0.keptBy HAgb.out (own_types h0 hgr (by decide))
            · simp at hd; subst hd
              have h0 := HGx.out.lo (base' := W1.heap.size) (by omega)
              exact h0.keptBy HAgb.out (own_types h0 hgr (by decide))
        case measure => simp [intOf]; omega
end Go.Proofs.YtbfhfnejppfehaaDoor
