import Derived.Test.YtbfhfnejppfehaaDoorMGainL13
import Derived.Test.YtbfhfnejppfehaaDoorMGainL06
import Derived.WalkSpells
import Derived.Lib.SliceRun
/-
  GainOf of the program returns what the reference's returns, for all arguments: no condition.
-/
namespace Go.Proofs.YtbfhfnejppfehaaDoor
open Go.RowKit
set_option linter.unusedVariables false
set_option linter.unusedSimpArgs false
set_option maxRecDepth 100000

/-- A list with two places exchanged. -/
def exch (who : List Int) (i j : Nat) : List Int := (who.set i (who.getD j 0)).set j (who.getD i 0)
theorem exch_len (who : List Int) (i j : Nat) : (exch who i j).length = who.length := by simp [exch]
def gainP (l : List Pk) (n : Int) (who : List Int) (i j : Int) : Prop := placingP l n who ∧ inB i 1 n ∧ inB j 1 n ∧ i ≠ j ∧ seatsP l (exch who (i - 1).toNat (j - 1).toNat)
def gainV (l : List Pk) (who : List Int) (i j : Int) : Int := skTo l (exch who (i - 1).toNat (j - 1).toNat) who.length - skTo l who who.length
theorem l1Own_any (l : List Int) (A : Option Addr) (c : Nat) (w : World) (h : RdL w w.heap.size A 1 encInt l) (hl : l.length ≤ 1048576) (h0 : 0 < l.length) :
    Calls Tryd.prog 49 #[.slice A l.length c] w fun e w' => ∃ A' c', e = .returned (.slice A' l.length c') ∧ l.length ≤ c' ∧ OwnL w' w.heap.size w'.heap.size A' 1 encInt l ∧ Below w.heap.size w w' := by
  have H := Lib.hid h
  clear h
  go_enter Tryd.func49, Tryd.ntmps49
  go_wp2_with (at_builtin; refine wpList_pushAll rfl _ _ 42 rfl w.heap.size 3 _ 1 8 encInt rfl Int_info rfl (by omega) _ [] l _ _ w.heap.size rfl rfl (H.out.below ((Below.refl _ _).alloc (Nat.le_refl _) _) (Nat.le_refl _)) h0 (Grow.empty (Nat.le_refl _)) encInt_len (by simp [encInt, Value.oneCell']) (by first | (simp; done) | (simp; omega)) (by omega) (by simp) ?_; intro v' w2 hg2 hb2 hgb)
  go_ret
  obtain ⟨A', c', hv, ho⟩ := hg2.own encInt_len
  subst hv
  exact ⟨A', c', rfl, hg2.capN, ho, ((Below.refl _ _).alloc (Nat.le_refl _) _).trans hb2⟩
theorem cloneInt_any (l : List Int) (A : Option Addr) (c : Nat) (w : World) (h : RdL w w.heap.size A 1 encInt l) (hl : l.length ≤ 1048576) (h0 : 0 < l.length) :
    Calls Tryd.prog 44 #[.slice A l.length c] w fun e w' => ∃ A' c', e = .returned (.slice A' l.length c') ∧ l.length ≤ c' ∧ OwnL w' w.heap.size w'.heap.size A' 1 encInt l ∧ Below w.heap.size w w' := by
  obtain ⟨g, off, hA, _, _⟩ := h.at h0
  subst hA
  have H := Lib.hid h
  clear h
  have hq : ∀ (w : World) (a : Option Addr) (n c : Nat), (binOp .eql 42 (.slice a n c) (.slice none 0 0)).run Tryd.prog w = .ok (.bool a.isNone) w := fun w a n c => Lib.run_eql_slice_nil w _ 3 a n c 0 0 rfl
  go_enter Tryd.func44, Tryd.ntmps44
  go_wp2_with (at_builtin; refine wpList_pushAll rfl _ _ 42 rfl w.heap.size 3 _ 1 8 encInt rfl Int_info rfl (by omega) _ [] l _ _ w.heap.size rfl rfl (H.out.below ((Below.refl _ _).alloc (Nat.le_refl _) _) (Nat.le_refl _)) h0 (Grow.empty (Nat.le_refl _)) encInt_len (by simp [encInt, Value.oneCell']) (by first | (simp; done) | (simp; omega)) (by omega) (by simp) ?_; intro v' w2 hg2 hb2 hgb)
  go_ret
  obtain ⟨A', c', hv, ho⟩ := hg2.own encInt_len
  subst hv
  exact ⟨A', c', rfl, hg2.capN, ho, ((Below.refl _ _).alloc (Nat.le_refl _) _).trans hb2⟩







set_option maxHeartbeats 3200000 in
theorem sGainOf_t (l : List Pk) (who : List Int) (A A' : Option Addr) (c c' : Nat) (n i j : Int) (w : World) (h : RdP w w.heap.size A l) (h' : RdL w w.heap.size A' 1 encInt who) (hl : l.length ≤ 1048576) (hc : l.length ≤ c) (hs : ∀ x ∈ l, Person_small 1048576 x) (hl' : who.length ≤ 1048576) (hc' : who.length ≤ c') (hp : gainP l n who i j) :
    Calls Tryd.prog 18 #[.slice A l.length c, .int .i64 n, .slice A' who.length c', .int .i64 i, .int .i64 j] w fun e w' => e = .returned (.tuple #[.int .i64 (gainV l who i j), .bool true]) ∧ Below w.heap.size w w' := by
  have H := Lib.hid h
  have H' := Lib.hid h'
  have Hs := Lib.hid hs
  have HP := Lib.hid hp.1
  have e1 := B_t hp.1
  have e2 := B_t hp.2.1
  have e3 := B_t hp.2.2.1
  have hij := hp.2.2.2.1
  have hn3 : n ≤ 7 := hp.1.1.1.2
  have hwn : (who.length : Int) = n := hp.1.2.1
  obtain ⟨i1, i2⟩ := hp.2.1
  obtain ⟨j1, j2⟩ := hp.2.2.1
  have h5 := Lib.hid hp.2.2.2.2
  clear h h' hs hp
  obtain ⟨a, ha0⟩ := Int.eq_ofNat_of_zero_le (show 0 ≤ i - 1 by omega)
  obtain ⟨b, hb0⟩ := Int.eq_ofNat_of_zero_le (show 0 ≤ j - 1 by omega)
  obtain rfl : i = (a : Int) + 1 := by omega
  obtain rfl : j = (b : Int) + 1 := by omega
  have ha : a < who.length := by omega
  have hb : b < who.length := by omega
  have hab : ¬ a = b := by omega
  have hpos : 0 < who.length := by omega
  have h5' := h5.out
  have hgv : Hid (gainV l who ((a : Int) + 1) ((b : Int) + 1) = skTo l (exch who a b) who.length - skTo l who who.length) := Lib.hid (by unfold gainV; simp)
  simp only [show ((a : Int) + 1 - 1).toNat = a from by omega, show ((b : Int) + 1 - 1).toNat = b from by omega] at h5'
  have e5 := B_t h5'
  have H5 := Lib.hid h5'
  have b1 := skTo_bound HP.out.1 HP.out.2.1 HP.out.2.2 who.length (Nat.le_refl _)
  have b2 := skTo_bound HP.out.1 (who := exch who a b) (by rw [exch_len]; exact HP.out.2.1) H5.out who.length (by rw [exch_len]; exact Nat.le_refl _)
  clear h5 h5' ha0 hb0
  obtain ⟨gw, offw, hAw, hgw, hcw⟩ := H'.out.at ha
  obtain ⟨gw', offw', hAw', hgw', hcw'⟩ := H'.out.at hb
  rw [hAw] at hAw'
  simp only [Option.some.injEq, Addr.mk.injEq, and_true] at hAw'
  obtain ⟨rfl, rfl⟩ := hAw'
  subst hAw
  have q0 : Hid (w.cell? ⟨gw, offw + a, none⟩ = some (.int .i64 who[a])) := Lib.hid (by have := hcw 0 _ rfl; rw [Nat.mul_one] at this; exact this)
  have q1 : Hid (w.cell? ⟨gw, offw + b, none⟩ = some (.int .i64 who[b])) := Lib.hid (by have := hcw' 0 _ rfl; rw [Nat.mul_one] at this; exact this)
  clear hcw hcw'
  have hK : Hid (∀ (W : World), RdP W W.heap.size A l → ∀ (A2 : Option Addr) (c2 : Nat), RdL W W.heap.size A2 1 encInt (exch who a b) → Calls Tryd.prog 51 #[.slice A l.length c, .slice A2 who.length c2] W fun e w' => e = .returned (.int .i64 (skTo l (exch who a b) who.length)) ∧ W = w') := Lib.hid (fun W h A2 c2 h2 => by
    have := l27Skill_any l (exch who a b) A A2 c c2 n W h h2 hl (by rw [exch_len]; exact hl') HP.out.1 (by rw [exch_len]; exact HP.out.2.1) H5.out
    rw [exch_len] at this; exact this)
  have hK2 : Hid (∀ (W : World), Below w.heap.size w W → Calls Tryd.prog 51 #[.slice A l.length c, .slice (some ⟨gw, offw, none⟩) who.length c'] W fun e w' => e = .returned (.int .i64 (skTo l who who.length)) ∧ W = w') := Lib.hid (fun W hb => l27Skill_any l who A _ c c' n W ((H.out.below hb (Nat.le_refl _)).more hb.size) ((H'.out.below hb (Nat.le_refl _)).more hb.size) hl hl' HP.out.1 HP.out.2.1 HP.out.2.2)
  obtain ⟨b11, b12⟩ := b1
  obtain ⟨b21, b22⟩ := b2
  have hw7 : (who.length : Int) ≤ 7 := by omega
  have hG : Hid (∀ (W : World), RdP W W.heap.size A l → ∀ (A2 : Option Addr) (c2 : Nat), RdL W W.heap.size A2 1 encInt (exch who a b) → who.length ≤ c2 → Calls Tryd.prog 50 #[.slice A l.length c, .int .i64 n, .slice A2 who.length c2] W fun e w' => e = .returned (.bool (B (seatsP l (exch who a b)))) ∧ W = w') := Lib.hid (fun W h A2 c2 h2 h3 => by
  have := l27Good_any l (exch who a b) A A2 c c2 n W h h2 hl (by rw [exch_len]; exact hl') (by rw [exch_len]; exact h3) HP.out.1 (by rw [exch_len]; exact HP.out.2.1)
  rw [exch_len] at this; exact this)
  go_enter Tryd.func18, Tryd.ntmps18
  go_wp2_with (first | (go_at_call 47; refine (sPlacing_any l who _ _ c c' n _ H.out H'.out hl hc Hs.out hl' hc').mono ?_; rintro e w1 ⟨rfl, hb1⟩) | (go_at_call 48; refine (l1In_any _ _ _ _).mono ?_; rintro e w' ⟨rfl, rfl⟩) | (go_at_call 49; refine (l1Own_any who _ _ _ ((H'.out.below hb1 (Nat.le_refl _)).more hb1.size) hl' hpos).mono ?_; rintro e w2 ⟨A2, c2, rfl, hc2, ho, hb2⟩; obtain ⟨g2, rfl, hg2a, hg2b, hg2c⟩ := ho.some_of hpos; have x0 := (ho.cellInt a ha).1; have f0 := (ho.cellInt a ha).2; have x1 := (ho.cellInt b hb).1; have f1 := (ho.cellInt b hb).2; have hb3 : Below w.heap.size w w2 := hb1.trans (hb2.mono hb1.size); have s0 : w2.cell? ⟨gw, offw + a, none⟩ = some (.int .i64 who[a]) := (hb3.cell (p := ⟨gw, offw + a, none⟩) hgw).trans q0.out; have s1 : w2.cell? ⟨gw, offw + b, none⟩ = some (.int .i64 who[b]) := (hb3.cell (p := ⟨gw, offw + b, none⟩) hgw).trans q1.out; have hgne : ¬ gw = g2 := by have := hb1.size; omega) | (go_at_call 50; have hb4 : Hid (Below w.heap.size w ((w2.setCell ⟨g2, a, none⟩ (.int .i64 who[b])).setCell ⟨g2, b, none⟩ (.int .i64 who[a]))) := Lib.hid ((hb3.setCell (p := ⟨g2, a, none⟩) (by have := hb1.size; show w.heap.size ≤ g2; omega) _).setCell (p := ⟨g2, b, none⟩) (by have := hb1.size; show w.heap.size ≤ g2; omega) _); have hx4 : Hid (RdL ((w2.setCell ⟨g2, a, none⟩ (.int .i64 who[b])).setCell ⟨g2, b, none⟩ (.int .i64 who[a])) ((w2.setCell ⟨g2, a, none⟩ (.int .i64 who[b])).setCell ⟨g2, b, none⟩ (.int .i64 who[a])).heap.size (some ⟨g2, 0, none⟩) 1 encInt (exch who a b)) := Lib.hid (by have := ((ho.setInt a ha who[b]).setInt b (by simpa using hb) who[a]).rd encInt_len; unfold exch; rw [List.getD_eq_getElem?_getD, List.getD_eq_getElem?_getD, List.getElem?_eq_getElem ha, List.getElem?_eq_getElem hb]; exact this); generalize ((w2.setCell ⟨g2, a, none⟩ (.int .i64 who[b])).setCell ⟨g2, b, none⟩ (.int .i64 who[a])) = w4 at hb4 hx4 ⊢; refine (hG.out w4 ((H.out.below hb4.out (Nat.le_refl _)).more hb4.out.size) _ c2 hx4.out hc2).mono ?_; rintro e w5 ⟨rfl, rfl⟩) | (go_at_call 51; first | (with_reducible show Calls _ _ #[_, Value.slice (some ⟨g2, 0, none⟩) _ _] _ _; refine (hK.out w4 ((H.out.below hb4.out (Nat.le_refl _)).more hb4.out.size) _ c2 hx4.out).mono ?_; rintro e w5 ⟨rfl, rfl⟩) | (refine (hK2.out w4 hb4.out).mono ?_; rintro e w5 ⟨rfl, rfl⟩)))
  go_ret2
  exact ⟨by rw [hgv.out]; rfl, hb4.out⟩
set_option maxHeartbeats 3200000 in
theorem iGainOf_t (l : List Pk) (who : List Int) (A A' : Option Addr) (c c' : Nat) (n i j : Int) (w : World) (h : RdP w w.heap.size A l) (h' : RdL w w.heap.size A' 1 encInt who) (hl : l.length ≤ 1048576) (hc : l.length ≤ c) (hs : ∀ x ∈ l, Person_small 1048576 x) (hl' : who.length ≤ 1048576) (hc' : who.length ≤ c') (hp : gainP l n who i j) :
    Calls Tryd.prog 17 #[.slice A l.length c, .int .i64 n, .slice A' who.length c', .int .i64 i, .int .i64 j] w fun e w' => e = .returned (.tuple #[.int .i64 (gainV l who i j), .bool true]) ∧ Below w.heap.size w w' := by
  have H := Lib.hid h
  have H' := Lib.hid h'
  have Hs := Lib.hid hs
  have HP := Lib.hid hp.1
  have e1 := B_t hp.1
  have e2 := B_t hp.2.1
  have e3 := B_t hp.2.2.1
  have hij := hp.2.2.2.1
  have hn3 : n ≤ 7 := hp.1.1.1.2
  have hwn : (who.length : Int) = n := hp.1.2.1
  obtain ⟨i1, i2⟩ := hp.2.1
  obtain ⟨j1, j2⟩ := hp.2.2.1
  have h5 := Lib.hid hp.2.2.2.2
  clear h h' hs hp
  obtain ⟨a, ha0⟩ := Int.eq_ofNat_of_zero_le (show 0 ≤ i - 1 by omega)
  obtain ⟨b, hb0⟩ := Int.eq_ofNat_of_zero_le (show 0 ≤ j - 1 by omega)
  obtain rfl : i = (a : Int) + 1 := by omega
  obtain rfl : j = (b : Int) + 1 := by omega
  have ha : a < who.length := by omega
  have hb : b < who.length := by omega
  have hab : ¬ a = b := by omega
  have hpos : 0 < who.length := by omega
  have h5' := h5.out
  have hgv : Hid (gainV l who ((a : Int) + 1) ((b : Int) + 1) = skTo l (exch who a b) who.length - skTo l who who.length) := Lib.hid (by unfold gainV; simp)
  simp only [show ((a : Int) + 1 - 1).toNat = a from by omega, show ((b : Int) + 1 - 1).toNat = b from by omega] at h5'
  have e5 := B_t h5'
  have H5 := Lib.hid h5'
  have b1 := skTo_bound HP.out.1 HP.out.2.1 HP.out.2.2 who.length (Nat.le_refl _)
  have b2 := skTo_bound HP.out.1 (who := exch who a b) (by rw [exch_len]; exact HP.out.2.1) H5.out who.length (by rw [exch_len]; exact Nat.le_refl _)
  clear h5 h5' ha0 hb0
  obtain ⟨gw, offw, hAw, hgw, hcw⟩ := H'.out.at ha
  obtain ⟨gw', offw', hAw', hgw', hcw'⟩ := H'.out.at hb
  rw [hAw] at hAw'
  simp only [Option.some.injEq, Addr.mk.injEq, and_true] at hAw'
  obtain ⟨rfl, rfl⟩ := hAw'
  subst hAw
  have q0 : Hid (w.cell? ⟨gw, offw + a, none⟩ = some (.int .i64 who[a])) := Lib.hid (by have := hcw 0 _ rfl; rw [Nat.mul_one] at this; exact this)
  have q1 : Hid (w.cell? ⟨gw, offw + b, none⟩ = some (.int .i64 who[b])) := Lib.hid (by have := hcw' 0 _ rfl; rw [Nat.mul_one] at this; exact this)
  clear hcw hcw'
  have hK : Hid (∀ (W : World), RdP W W.heap.size A l → ∀ (A2 : Option Addr) (c2 : Nat), RdL W W.heap.size A2 1 encInt (exch who a b) → Calls Tryd.prog 46 #[.slice A l.length c, .slice A2 who.length c2] W fun e w' => e = .returned (.int .i64 (skTo l (exch who a b) who.length)) ∧ W = w') := Lib.hid (fun W h A2 c2 h2 => by
    have := skillOf_any l (exch who a b) A A2 c c2 n W h h2 hl (by rw [exch_len]; exact hl') HP.out.1 (by rw [exch_len]; exact HP.out.2.1) H5.out
    rw [exch_len] at this; exact this)
  have hK2 : Hid (∀ (W : World), Below w.heap.size w W → Calls Tryd.prog 46 #[.slice A l.length c, .slice (some ⟨gw, offw, none⟩) who.length c'] W fun e w' => e = .returned (.int .i64 (skTo l who who.length)) ∧ W = w') := Lib.hid (fun W hb => skillOf_any l who A _ c c' n W ((H.out.below hb (Nat.le_refl _)).more hb.size) ((H'.out.below hb (Nat.le_refl _)).more hb.size) hl hl' HP.out.1 HP.out.2.1 HP.out.2.2)
  obtain ⟨b11, b12⟩ := b1
  obtain ⟨b21, b22⟩ := b2
  have hw7 : (who.length : Int) ≤ 7 := by omega
  have hG : Hid (∀ (W : World), RdP W W.heap.size A l → ∀ (A2 : Option Addr) (c2 : Nat), RdL W W.heap.size A2 1 encInt (exch who a b) → who.length ≤ c2 → Calls Tryd.prog 45 #[.slice A l.length c, .int .i64 n, .slice A2 who.length c2] W fun e w' => e = .returned (.bool (B (seatsP l (exch who a b)))) ∧ W = w') := Lib.hid (fun W h A2 c2 h2 h3 => by
  have := isPlacing_any l (exch who a b) A A2 c c2 n W h h2 hl (by rw [exch_len]; exact hl') (by rw [exch_len]; exact h3) HP.out.1 (by rw [exch_len]; exact HP.out.2.1)
  rw [exch_len] at this; exact this)
  go_enter Tryd.func17, Tryd.ntmps17
  go_wp2_with (first | (go_at_call 42; refine (iPlacing_any l who _ _ c c' n _ H.out H'.out hl hc Hs.out hl' hc').mono ?_; rintro e w1 ⟨rfl, hb1⟩) | (go_at_call 43; refine (isBell_any _ _ _).mono ?_; rintro e w' ⟨rfl, rfl⟩) | (go_at_call 44; refine (cloneInt_any who _ _ _ ((H'.out.below hb1 (Nat.le_refl _)).more hb1.size) hl' hpos).mono ?_; rintro e w2 ⟨A2, c2, rfl, hc2, ho, hb2⟩; obtain ⟨g2, rfl, hg2a, hg2b, hg2c⟩ := ho.some_of hpos; have x0 := (ho.cellInt a ha).1; have f0 := (ho.cellInt a ha).2; have x1 := (ho.cellInt b hb).1; have f1 := (ho.cellInt b hb).2; have hb3 : Below w.heap.size w w2 := hb1.trans (hb2.mono hb1.size); have s0 : w2.cell? ⟨gw, offw + a, none⟩ = some (.int .i64 who[a]) := (hb3.cell (p := ⟨gw, offw + a, none⟩) hgw).trans q0.out; have s1 : w2.cell? ⟨gw, offw + b, none⟩ = some (.int .i64 who[b]) := (hb3.cell (p := ⟨gw, offw + b, none⟩) hgw).trans q1.out; have hgne : ¬ gw = g2 := by have := hb1.size; omega))
  go_region
  have hb4 : Hid (Below w.heap.size w ((w2.setCell ⟨g2, a, none⟩ (.int .i64 who[b])).setCell ⟨g2, b, none⟩ (.int .i64 who[a])).drew) := Lib.hid (((hb3.setCell (p := ⟨g2, a, none⟩) (by have := hb1.size; show w.heap.size ≤ g2; omega) _).setCell (p := ⟨g2, b, none⟩) (by have := hb1.size; show w.heap.size ≤ g2; omega) _).drew)
  have hx4 : Hid (RdL ((w2.setCell ⟨g2, a, none⟩ (.int .i64 who[b])).setCell ⟨g2, b, none⟩ (.int .i64 who[a])).drew ((w2.setCell ⟨g2, a, none⟩ (.int .i64 who[b])).setCell ⟨g2, b, none⟩ (.int .i64 who[a])).drew.heap.size (some ⟨g2, 0, none⟩) 1 encInt (exch who a b)) := Lib.hid (by
    have := ((ho.setInt a ha who[b]).setInt b (by simpa using hb) who[a]).rd encInt_len
    unfold exch; rw [List.getD_eq_getElem?_getD, List.getD_eq_getElem?_getD, List.getElem?_eq_getElem ha, List.getElem?_eq_getElem hb]; exact this)
  generalize ((w2.setCell ⟨g2, a, none⟩ (.int .i64 who[b])).setCell ⟨g2, b, none⟩ (.int .i64 who[a])).drew = w4 at hb4 hx4 ⊢
  clear x0 x1 f0 f1 s0 s1
  go_wp2_with (first | (go_at_call 45; refine (hG.out w4 ((H.out.below hb4.out (Nat.le_refl _)).more hb4.out.size) _ c2 hx4.out hc2).mono ?_; rintro e w5 ⟨rfl, rfl⟩) | (go_at_call 46; first | (with_reducible show Calls _ _ #[_, Value.slice (some ⟨g2, 0, none⟩) _ _] _ _; refine (hK.out w4 ((H.out.below hb4.out (Nat.le_refl _)).more hb4.out.size) _ c2 hx4.out).mono ?_; rintro e w5 ⟨rfl, rfl⟩) | (refine (hK2.out w4 hb4.out).mono ?_; rintro e w5 ⟨rfl, rfl⟩)))
  go_ret2
  exact ⟨by rw [hgv.out]; rfl, hb4.out⟩

set_option maxHeartbeats 3200000 in
theorem sGainOf_f (l : List Pk) (who : List Int) (A A' : Option Addr) (c c' : Nat) (n i j : Int) (w : World) (h : RdP w w.heap.size A l) (h' : RdL w w.heap.size A' 1 encInt who) (hl : l.length ≤ 1048576) (hc : l.length ≤ c) (hs : ∀ x ∈ l, Person_small 1048576 x) (hl' : who.length ≤ 1048576) (hc' : who.length ≤ c') (hp : ¬ gainP l n who i j) :
    Calls Tryd.prog 18 #[.slice A l.length c, .int .i64 n, .slice A' who.length c', .int .i64 i, .int .i64 j] w fun e w' => e = .returned (.tuple #[.int .i64 0, .bool false]) ∧ Below w.heap.size w w' := by
  have H := Lib.hid h
  have H' := Lib.hid h'
  have Hs := Lib.hid hs
  clear h h' hs
  by_cases p1 : placingP l n who
  · have HP := Lib.hid p1
    have e1 := B_t p1
    by_cases p2 : inB i 1 n
    · have e2 := B_t p2
      by_cases p3 : inB j 1 n
      · have e3 := B_t p3
        by_cases p4 : i = j
        · subst p4
          clear hp p1 p2 p3
          go_enter Tryd.func18, Tryd.ntmps18
          go_wp2_with (first | (go_at_call 47; refine (sPlacing_any l who _ _ c c' n _ H.out H'.out hl hc Hs.out hl' hc').mono ?_; rintro e w1 ⟨rfl, hb1⟩) | (go_at_call 48; refine (l1In_any _ _ _ _).mono ?_; rintro e w' ⟨rfl, rfl⟩))
          go_ret2
          exact ⟨rfl, hb1⟩
        · have p5 : ¬ seatsP l (exch who (i - 1).toNat (j - 1).toNat) := fun h => hp ⟨p1, p2, p3, p4, h⟩
          clear hp
          obtain ⟨i1, i2⟩ := p2
          obtain ⟨j1, j2⟩ := p3
          have hn3 : n ≤ 7 := p1.1.1.2
          have hwn : (who.length : Int) = n := p1.2.1
          clear p1
          obtain ⟨a, ha0⟩ := Int.eq_ofNat_of_zero_le (show 0 ≤ i - 1 by omega)
          obtain ⟨b, hb0⟩ := Int.eq_ofNat_of_zero_le (show 0 ≤ j - 1 by omega)
          obtain rfl : i = (a : Int) + 1 := by omega
          obtain rfl : j = (b : Int) + 1 := by omega
          have ha : a < who.length := by omega
          have hb : b < who.length := by omega
          have hab : ¬ a = b := by omega
          have hpos : 0 < who.length := by omega
          simp only [show ((a : Int) + 1 - 1).toNat = a from by omega, show ((b : Int) + 1 - 1).toNat = b from by omega] at p5
          have e5 := B_f p5
          clear p5 ha0 hb0
          obtain ⟨gw, offw, hAw, hgw, hcw⟩ := H'.out.at ha
          obtain ⟨gw', offw', hAw', hgw', hcw'⟩ := H'.out.at hb
          rw [hAw] at hAw'
          simp only [Option.some.injEq, Addr.mk.injEq, and_true] at hAw'
          obtain ⟨rfl, rfl⟩ := hAw'
          subst hAw
          have q0 : Hid (w.cell? ⟨gw, offw + a, none⟩ = some (.int .i64 who[a])) := Lib.hid (by have := hcw 0 _ rfl; rw [Nat.mul_one] at this; exact this)
          have q1 : Hid (w.cell? ⟨gw, offw + b, none⟩ = some (.int .i64 who[b])) := Lib.hid (by have := hcw' 0 _ rfl; rw [Nat.mul_one] at this; exact this)
          clear hcw hcw'
          have hG : Hid (∀ (W : World), RdP W W.heap.size A l → ∀ (A2 : Option Addr) (c2 : Nat), RdL W W.heap.size A2 1 encInt (exch who a b) → who.length ≤ c2 → Calls Tryd.prog 50 #[.slice A l.length c, .int .i64 n, .slice A2 who.length c2] W fun e w' => e = .returned (.bool (B (seatsP l (exch who a b)))) ∧ W = w') := Lib.hid (fun W h A2 c2 h2 h3 => by
          have := l27Good_any l (exch who a b) A A2 c c2 n W h h2 hl (by rw [exch_len]; exact hl') (by rw [exch_len]; exact h3) HP.out.1 (by rw [exch_len]; exact HP.out.2.1)
          rw [exch_len] at this; exact this)
          go_enter Tryd.func18, Tryd.ntmps18
          go_wp2_with (first | (go_at_call 47; refine (sPlacing_any l who _ _ c c' n _ H.out H'.out hl hc Hs.out hl' hc').mono ?_; rintro e w1 ⟨rfl, hb1⟩) | (go_at_call 48; refine (l1In_any _ _ _ _).mono ?_; rintro e w' ⟨rfl, rfl⟩) | (go_at_call 49; refine (l1Own_any who _ _ _ ((H'.out.below hb1 (Nat.le_refl _)).more hb1.size) hl' hpos).mono ?_; rintro e w2 ⟨A2, c2, rfl, hc2, ho, hb2⟩; obtain ⟨g2, rfl, hg2a, hg2b, hg2c⟩ := ho.some_of hpos; have x0 := (ho.cellInt a ha).1; have f0 := (ho.cellInt a ha).2; have x1 := (ho.cellInt b hb).1; have f1 := (ho.cellInt b hb).2; have hb3 : Below w.heap.size w w2 := hb1.trans (hb2.mono hb1.size); have s0 : w2.cell? ⟨gw, offw + a, none⟩ = some (.int .i64 who[a]) := (hb3.cell (p := ⟨gw, offw + a, none⟩) hgw).trans q0.out; have s1 : w2.cell? ⟨gw, offw + b, none⟩ = some (.int .i64 who[b]) := (hb3.cell (p := ⟨gw, offw + b, none⟩) hgw).trans q1.out; have hgne : ¬ gw = g2 := by have := hb1.size; omega) | (go_at_call 50; have hb4 : Hid (Below w.heap.size w ((w2.setCell ⟨g2, a, none⟩ (.int .i64 who[b])).setCell ⟨g2, b, none⟩ (.int .i64 who[a]))) := Lib.hid ((hb3.setCell (p := ⟨g2, a, none⟩) (by have := hb1.size; show w.heap.size ≤ g2; omega) _).setCell (p := ⟨g2, b, none⟩) (by have := hb1.size; show w.heap.size ≤ g2; omega) _); have hx4 : Hid (RdL ((w2.setCell ⟨g2, a, none⟩ (.int .i64 who[b])).setCell ⟨g2, b, none⟩ (.int .i64 who[a])) ((w2.setCell ⟨g2, a, none⟩ (.int .i64 who[b])).setCell ⟨g2, b, none⟩ (.int .i64 who[a])).heap.size (some ⟨g2, 0, none⟩) 1 encInt (exch who a b)) := Lib.hid (by have := ((ho.setInt a ha who[b]).setInt b (by simpa using hb) who[a]).rd encInt_len; unfold exch; rw [List.getD_eq_getElem?_getD, List.getD_eq_getElem?_getD, List.getElem?_eq_getElem ha, List.getElem?_eq_getElem hb]; exact this); generalize ((w2.setCell ⟨g2, a, none⟩ (.int .i64 who[b])).setCell ⟨g2, b, none⟩ (.int .i64 who[a])) = w4 at hb4 hx4 ⊢; refine (hG.out w4 ((H.out.below hb4.out (Nat.le_refl _)).more hb4.out.size) _ c2 hx4.out hc2).mono ?_; rintro e w5 ⟨rfl, rfl⟩))
          go_ret2
          exact ⟨rfl, hb4.out⟩
      · have e3 := B_f p3
        clear hp p1 p2 p3
        go_enter Tryd.func18, Tryd.ntmps18
        go_wp2_with (first | (go_at_call 47; refine (sPlacing_any l who _ _ c c' n _ H.out H'.out hl hc Hs.out hl' hc').mono ?_; rintro e w1 ⟨rfl, hb1⟩) | (go_at_call 48; refine (l1In_any _ _ _ _).mono ?_; rintro e w' ⟨rfl, rfl⟩))
        go_ret2
        exact ⟨rfl, hb1⟩
    · have e2 := B_f p2
      clear hp p1 p2
      go_enter Tryd.func18, Tryd.ntmps18
      go_wp2_with (first | (go_at_call 47; refine (sPlacing_any l who _ _ c c' n _ H.out H'.out hl hc Hs.out hl' hc').mono ?_; rintro e w1 ⟨rfl, hb1⟩) | (go_at_call 48; refine (l1In_any _ _ _ _).mono ?_; rintro e w' ⟨rfl, rfl⟩))
      go_ret2
      exact ⟨rfl, hb1⟩
  · have e1 := B_f p1
    clear hp p1
    go_enter Tryd.func18, Tryd.ntmps18
    go_wp2_with (first | (go_at_call 47; refine (sPlacing_any l who _ _ c c' n _ H.out H'.out hl hc Hs.out hl' hc').mono ?_; rintro e w1 ⟨rfl, hb1⟩) | (go_at_call 48; refine (l1In_any _ _ _ _).mono ?_; rintro e w' ⟨rfl, rfl⟩))
    go_ret2
    exact ⟨rfl, hb1⟩
set_option maxHeartbeats 3200000 in
theorem iGainOf_f (l : List Pk) (who : List Int) (A A' : Option Addr) (c c' : Nat) (n i j : Int) (w : World) (h : RdP w w.heap.size A l) (h' : RdL w w.heap.size A' 1 encInt who) (hl : l.length ≤ 1048576) (hc : l.length ≤ c) (hs : ∀ x ∈ l, Person_small 1048576 x) (hl' : who.length ≤ 1048576) (hc' : who.length ≤ c') (hp : ¬ gainP l n who i j) :
    Calls Tryd.prog 17 #[.slice A l.length c, .int .i64 n, .slice A' who.length c', .int .i64 i, .int .i64 j] w fun e w' => e = .returned (.tuple #[.int .i64 0, .bool false]) ∧ Below w.heap.size w w' := by
  have H := Lib.hid h
  have H' := Lib.hid h'
  have Hs := Lib.hid hs
  clear h h' hs
  by_cases p1 : placingP l n who
  · have HP := Lib.hid p1
    have e1 := B_t p1
    by_cases p2 : inB i 1 n
    · have e2 := B_t p2
      by_cases p3 : inB j 1 n
      · have e3 := B_t p3
        by_cases p4 : i = j
        · subst p4
          clear hp p1 p2 p3
          go_enter Tryd.func17, Tryd.ntmps17
          go_wp2_with (first | (go_at_call 42; refine (iPlacing_any l who _ _ c c' n _ H.out H'.out hl hc Hs.out hl' hc').mono ?_; rintro e w1 ⟨rfl, hb1⟩) | (go_at_call 43; refine (isBell_any _ _ _).mono ?_; rintro e w' ⟨rfl, rfl⟩))
          go_ret2
          exact ⟨rfl, hb1⟩
        · have p5 : ¬ seatsP l (exch who (i - 1).toNat (j - 1).toNat) := fun h => hp ⟨p1, p2, p3, p4, h⟩
          clear hp
          obtain ⟨i1, i2⟩ := p2
          obtain ⟨j1, j2⟩ := p3
          have hn3 : n ≤ 7 := p1.1.1.2
          have hwn : (who.length : Int) = n := p1.2.1
          clear p1
          obtain ⟨a, ha0⟩ := Int.eq_ofNat_of_zero_le (show 0 ≤ i - 1 by omega)
          obtain ⟨b, hb0⟩ := Int.eq_ofNat_of_zero_le (show 0 ≤ j - 1 by omega)
          obtain rfl : i = (a : Int) + 1 := by omega
          obtain rfl : j = (b : Int) + 1 := by omega
          have ha : a < who.length := by omega
          have hb : b < who.length := by omega
          have hab : ¬ a = b := by omega
          have hpos : 0 < who.length := by omega
          simp only [show ((a : Int) + 1 - 1).toNat = a from by omega, show ((b : Int) + 1 - 1).toNat = b from by omega] at p5
          have e5 := B_f p5
          clear p5 ha0 hb0
          obtain ⟨gw, offw, hAw, hgw, hcw⟩ := H'.out.at ha
          obtain ⟨gw', offw', hAw', hgw', hcw'⟩ := H'.out.at hb
          rw [hAw] at hAw'
          simp only [Option.some.injEq, Addr.mk.injEq, and_true] at hAw'
          obtain ⟨rfl, rfl⟩ := hAw'
          subst hAw
          have q0 : Hid (w.cell? ⟨gw, offw + a, none⟩ = some (.int .i64 who[a])) := Lib.hid (by have := hcw 0 _ rfl; rw [Nat.mul_one] at this; exact this)
          have q1 : Hid (w.cell? ⟨gw, offw + b, none⟩ = some (.int .i64 who[b])) := Lib.hid (by have := hcw' 0 _ rfl; rw [Nat.mul_one] at this; exact this)
          clear hcw hcw'
          have hG : Hid (∀ (W : World), RdP W W.heap.size A l → ∀ (A2 : Option Addr) (c2 : Nat), RdL W W.heap.size A2 1 encInt (exch who a b) → who.length ≤ c2 → Calls Tryd.prog 45 #[.slice A l.length c, .int .i64 n, .slice A2 who.length c2] W fun e w' => e = .returned (.bool (B (seatsP l (exch who a b)))) ∧ W = w') := Lib.hid (fun W h A2 c2 h2 h3 => by
          have := isPlacing_any l (exch who a b) A A2 c c2 n W h h2 hl (by rw [exch_len]; exact hl') (by rw [exch_len]; exact h3) HP.out.1 (by rw [exch_len]; exact HP.out.2.1)
          rw [exch_len] at this; exact this)
          go_enter Tryd.func17, Tryd.ntmps17
          go_wp2_with (first | (go_at_call 42; refine (iPlacing_any l who _ _ c c' n _ H.out H'.out hl hc Hs.out hl' hc').mono ?_; rintro e w1 ⟨rfl, hb1⟩) | (go_at_call 43; refine (isBell_any _ _ _).mono ?_; rintro e w' ⟨rfl, rfl⟩) | (go_at_call 44; refine (cloneInt_any who _ _ _ ((H'.out.below hb1 (Nat.le_refl _)).more hb1.size) hl' hpos).mono ?_; rintro e w2 ⟨A2, c2, rfl, hc2, ho, hb2⟩; obtain ⟨g2, rfl, hg2a, hg2b, hg2c⟩ := ho.some_of hpos; have x0 := (ho.cellInt a ha).1; have f0 := (ho.cellInt a ha).2; have x1 := (ho.cellInt b hb).1; have f1 := (ho.cellInt b hb).2; have hb3 : Below w.heap.size w w2 := hb1.trans (hb2.mono hb1.size); have s0 : w2.cell? ⟨gw, offw + a, none⟩ = some (.int .i64 who[a]) := (hb3.cell (p := ⟨gw, offw + a, none⟩) hgw).trans q0.out; have s1 : w2.cell? ⟨gw, offw + b, none⟩ = some (.int .i64 who[b]) := (hb3.cell (p := ⟨gw, offw + b, none⟩) hgw).trans q1.out; have hgne : ¬ gw = g2 := by have := hb1.size; omega))
          go_region
          have hb4 : Hid (Below w.heap.size w ((w2.setCell ⟨g2, a, none⟩ (.int .i64 who[b])).setCell ⟨g2, b, none⟩ (.int .i64 who[a])).drew) := Lib.hid (((hb3.setCell (p := ⟨g2, a, none⟩) (by have := hb1.size; show w.heap.size ≤ g2; omega) _).setCell (p := ⟨g2, b, none⟩) (by have := hb1.size; show w.heap.size ≤ g2; omega) _).drew)
          have hx4 : Hid (RdL ((w2.setCell ⟨g2, a, none⟩ (.int .i64 who[b])).setCell ⟨g2, b, none⟩ (.int .i64 who[a])).drew ((w2.setCell ⟨g2, a, none⟩ (.int .i64 who[b])).setCell ⟨g2, b, none⟩ (.int .i64 who[a])).drew.heap.size (some ⟨g2, 0, none⟩) 1 encInt (exch who a b)) := Lib.hid (by
            have := ((ho.setInt a ha who[b]).setInt b (by simpa using hb) who[a]).rd encInt_len
            unfold exch; rw [List.getD_eq_getElem?_getD, List.getD_eq_getElem?_getD, List.getElem?_eq_getElem ha, List.getElem?_eq_getElem hb]; exact this)
          generalize ((w2.setCell ⟨g2, a, none⟩ (.int .i64 who[b])).setCell ⟨g2, b, none⟩ (.int .i64 who[a])).drew = w4 at hb4 hx4 ⊢
          clear x0 x1 f0 f1 s0 s1
          go_wp2_with (go_at_call 45; refine (hG.out w4 ((H.out.below hb4.out (Nat.le_refl _)).more hb4.out.size) _ c2 hx4.out hc2).mono ?_; rintro e w5 ⟨rfl, rfl⟩)
          go_ret2
          exact ⟨rfl, hb4.out⟩
      · have e3 := B_f p3
        clear hp p1 p2 p3
        go_enter Tryd.func17, Tryd.ntmps17
        go_wp2_with (first | (go_at_call 42; refine (iPlacing_any l who _ _ c c' n _ H.out H'.out hl hc Hs.out hl' hc').mono ?_; rintro e w1 ⟨rfl, hb1⟩) | (go_at_call 43; refine (isBell_any _ _ _).mono ?_; rintro e w' ⟨rfl, rfl⟩))
        go_ret2
        exact ⟨rfl, hb1⟩
    · have e2 := B_f p2
      clear hp p1 p2
      go_enter Tryd.func17, Tryd.ntmps17
      go_wp2_with (first | (go_at_call 42; refine (iPlacing_any l who _ _ c c' n _ H.out H'.out hl hc Hs.out hl' hc').mono ?_; rintro e w1 ⟨rfl, hb1⟩) | (go_at_call 43; refine (isBell_any _ _ _).mono ?_; rintro e w' ⟨rfl, rfl⟩))
      go_ret2
      exact ⟨rfl, hb1⟩
  · have e1 := B_f p1
    clear hp p1
    go_enter Tryd.func17, Tryd.ntmps17
    go_wp2_with (first | (go_at_call 42; refine (iPlacing_any l who _ _ c c' n _ H.out H'.out hl hc Hs.out hl' hc').mono ?_; rintro e w1 ⟨rfl, hb1⟩) | (go_at_call 43; refine (isBell_any _ _ _).mono ?_; rintro e w' ⟨rfl, rfl⟩))
    go_ret2
    exact ⟨rfl, hb1⟩
end Go.Proofs.YtbfhfnejppfehaaDoor
