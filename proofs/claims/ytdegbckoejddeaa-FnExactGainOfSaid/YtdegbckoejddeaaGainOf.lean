/-
  GainOf of the program returns what the reference's returns, for all arguments: no condition.
-/
import Derived.Test.YtdegbckoejddeaaSkill
import Derived.Test.YtdegbckoejddeaaClone
import Derived.WalkSpells
import Derived.Lib.SliceRun
namespace Go.Proofs.Ytdegbckoejddeaa
open Go.RowKit
set_option linter.unusedVariables false
set_option linter.unusedSimpArgs false
set_option maxRecDepth 100000

/-- A list with two places exchanged. -/
def exch (who : List Int) (i j : Nat) : List Int := (who.set i (who.getD j 0)).set j (who.getD i 0)
theorem exch_len (who : List Int) (i j : Nat) : (exch who i j).length = who.length := by simp [exch]
def gainP (l : List Pk) (n : Int) (who : List Int) (i j : Int) : Prop := placingP l n who ∧ inB i 1 n ∧ inB j 1 n ∧ i ≠ j ∧ seatsP l (exch who (i - 1).toNat (j - 1).toNat)
def gainV (l : List Pk) (who : List Int) (i j : Int) : Int := skTo l (exch who (i - 1).toNat (j - 1).toNat) who.length - skTo l who who.length
theorem l1Own_any (l : List Int) (A : Option Addr) (c : Nat) (w : World) (h : RdL w w.heap.size A 1 encInt l) (hl : l.length ≤ 1048576) (h0 : 0 < l.length) :
    Calls Try.prog 93 #[.slice A l.length c] w fun e w' => ∃ A' c', e = .returned (.slice A' l.length c') ∧ l.length ≤ c' ∧ OwnL w' w.heap.size w'.heap.size A' 1 encInt l ∧ Below w.heap.size w w' := by
  have H := Lib.hid h
  clear h
  go_enter Try.func93, Try.ntmps93
  go_wp2_with (at_builtin; refine wpList_pushAll rfl _ _ 23 rfl w.heap.size 3 _ 1 8 encInt rfl Int_info rfl (by omega) _ [] l _ _ w.heap.size rfl rfl (H.out.below ((Below.refl _ _).alloc (Nat.le_refl _) _) (Nat.le_refl _)) h0 (Grow.empty (Nat.le_refl _)) encInt_len (by simp [encInt, Value.oneCell']) (by first | (simp; done) | (simp; omega)) (by omega) (by simp) ?_; intro v' w2 hg2 hb2 hgb)
  go_ret
  obtain ⟨A', c', hv, ho⟩ := hg2.own encInt_len
  subst hv
  exact ⟨A', c', rfl, hg2.capN, ho, ((Below.refl _ _).alloc (Nat.le_refl _) _).trans hb2⟩
theorem cloneInt_any (l : List Int) (A : Option Addr) (c : Nat) (w : World) (h : RdL w w.heap.size A 1 encInt l) (hl : l.length ≤ 1048576) (h0 : 0 < l.length) :
    Calls Try.prog 96 #[.slice A l.length c] w fun e w' => ∃ A' c', e = .returned (.slice A' l.length c') ∧ l.length ≤ c' ∧ OwnL w' w.heap.size w'.heap.size A' 1 encInt l ∧ Below w.heap.size w w' := by
  obtain ⟨g, off, hA, _, _⟩ := h.at h0
  subst hA
  have H := Lib.hid h
  clear h
  have hq : ∀ (w : World) (a : Option Addr) (n c : Nat), (binOp .eql 23 (.slice a n c) (.slice none 0 0)).run Try.prog w = .ok (.bool a.isNone) w := fun w a n c => Lib.run_eql_slice_nil w _ 3 a n c 0 0 rfl
  go_enter Try.func96, Try.ntmps96
  go_wp2_with (at_builtin; refine wpList_pushAll rfl _ _ 23 rfl w.heap.size 3 _ 1 8 encInt rfl Int_info rfl (by omega) _ [] l _ _ w.heap.size rfl rfl (H.out.below ((Below.refl _ _).alloc (Nat.le_refl _) _) (Nat.le_refl _)) h0 (Grow.empty (Nat.le_refl _)) encInt_len (by simp [encInt, Value.oneCell']) (by first | (simp; done) | (simp; omega)) (by omega) (by simp) ?_; intro v' w2 hg2 hb2 hgb)
  go_ret
  obtain ⟨A', c', hv, ho⟩ := hg2.own encInt_len
  subst hv
  exact ⟨A', c', rfl, hg2.capN, ho, ((Below.refl _ _).alloc (Nat.le_refl _) _).trans hb2⟩







set_option maxHeartbeats 3200000 in
theorem sGainOf_t (l : List Pk) (who : List Int) (A A' : Option Addr) (c c' : Nat) (n i j : Int) (w : World) (h : RdP w w.heap.size A l) (h' : RdL w w.heap.size A' 1 encInt who) (hl : l.length ≤ 1048576) (hc : l.length ≤ c) (hs : ∀ x ∈ l, Person_small 1048576 x) (hl' : who.length ≤ 1048576) (hc' : who.length ≤ c') (hp : gainP l n who i j) :
    Calls Try.prog 29 #[.slice A l.length c, .int .i64 n, .slice A' who.length c', .int .i64 i, .int .i64 j] w fun e w' => e = .returned (.tuple #[.int .i64 (gainV l who i j), .bool true]) ∧ Below w.heap.size w w' := by
  have H := Lib.hid h
  have H' := Lib.hid h'
  have Hs := Lib.hid hs
  have HP := Lib.hid hp.1
  have e1 := B_t hp.1
  have e2 := B_t hp.2.1
  have e3 := B_t hp.2.2.1
  have hij := hp.2.2.2.1
  have hn3 : n ≤ 7 := hp.1.1.1.2
  have hwn : (who.length : Int) = n := hp.1.2.1
  obtain ⟨i1, i2⟩ := hp.2.1
  obtain ⟨j1, j2⟩ := hp.2.2.1
  have h5 := Lib.hid hp.2.2.2.2
  clear h h' hs hp
  obtain ⟨a, ha0⟩ := Int.eq_ofNat_of_zero_le (show 0 ≤ i - 1 by omega)
  obtain ⟨b, hb0⟩ := Int.eq_ofNat_of_zero_le (show 0 ≤ j - 1 by omega)
  obtain rfl : i = (a : Int) + 1 := by omega
  obtain rfl : j = (b : Int) + 1 := by omega
  have ha : a < who.length := by omega
  have hb : b < who.length := by omega
  have hab : ¬ a = b := by omega
  have hpos : 0 < who.length := by omega
  have h5' := h5.out
  have hgv : Hid (gainV l who ((a : Int) + 1) ((b : Int) + 1) = skTo l (exch who a b) who.length - skTo l who who.length) := Lib.hid (by unfold gainV; simp)
  simp only [show ((a : Int) + 1 - 1).toNat = a from by omega, show ((b : Int) + 1 - 1).toNat = b from by omega] at h5'
  have e5 := B_t h5'
  have H5 := Lib.hid h5'
  have b1 := skTo_bound HP.out.1 HP.out.2.1 HP.out.2.2 who.length (Nat.le_refl _)
  have b2 := skTo_bound HP.out.1 (who := exch who a b) (by rw [exch_len]; exact HP.out.2.1) H5.out who.length (by rw [exch_len]; exact Nat.le_refl _)
  clear h5 h5' ha0 hb0
  obtain ⟨gw, offw, hAw, hgw, hcw⟩ := H'.out.at ha
  obtain ⟨gw', offw', hAw', hgw', hcw'⟩ := H'.out.at hb
  rw [hAw] at hAw'
  simp only [Option.some.injEq, Addr.mk.injEq, and_true] at hAw'
  obtain ⟨rfl, rfl⟩ := hAw'
  subst hAw
  have q0 : Hid (w.cell? ⟨gw, offw + a, none⟩ = some (.int .i64 who[a])) := Lib.hid (by have := hcw 0 _ rfl; rw [Nat.mul_one] at this; exact this)
  have q1 : Hid (w.cell? ⟨gw, offw + b, none⟩ = some (.int .i64 who[b])) := Lib.hid (by have := hcw' 0 _ rfl; rw [Nat.mul_one] at this; exact this)
  clear hcw hcw'
  have hK : Hid (∀ (W : World), RdP W W.heap.size A l → ∀ (A2 : Option Addr) (c2 : Nat), RdL W W.heap.size A2 1 encInt (exch who a b) → Calls Try.prog 75 #[.slice A l.length c, .slice A2 who.length c2] W fun e w' => e = .returned (.int .i64 (skTo l (exch who a b) who.length)) ∧ W = w') := Lib.hid (fun W h A2 c2 h2 => by
    have := l27Skill_any l (exch who a b) A A2 c c2 n W h h2 hl (by rw [exch_len]; exact hl') HP.out.1 (by rw [exch_len]; exact HP.out.2.1) H5.out
    rw [exch_len] at this; exact this)
  have hK2 : Hid (∀ (W : World), Below w.heap.size w W → Calls Try.prog 75 #[.slice A l.length c, .slice (some ⟨gw, offw, none⟩) who.length c'] W fun e w' => e = .returned (.int .i64 (skTo l who who.length)) ∧ W = w') := Lib.hid (fun W hb => l27Skill_any l who A _ c c' n W ((H.out.below hb (Nat.le_refl _)).more hb.size) ((H'.out.below hb (Nat.le_refl _)).more hb.size) hl hl' HP.out.1 HP.out.2.1 HP.out.2.2)
  obtain ⟨b11, b12⟩ := b1
  obtain ⟨b21, b22⟩ := b2
  have hw7 : (who.length : Int) ≤ 7 := by omega
  have hG : Hid (∀ (W : World), RdP W W.heap.size A l → ∀ (A2 : Option Addr) (c2 : Nat), RdL W W.heap.size A2 1 encInt (exch who a b) → who.length ≤ c2 → Calls Try.prog 94 #[.slice A l.length c, .int .i64 n, .slice A2 who.length c2] W fun e w' => e = .returned (.bool (B (seatsP l (exch who a b)))) ∧ W = w') := Lib.hid (fun W h A2 c2 h2 h3 => by
  have := l27Good_any l (exch who a b) A A2 c c2 n W h h2 hl (by rw [exch_len]; exact hl') (by rw [exch_len]; exact h3) HP.out.1 (by rw [exch_len]; exact HP.out.2.1)
  rw [exch_len] at this; exact this)
  go_enter Try.func29, Try.ntmps29
  go_wp2_with (first | (go_at_call 74; refine (sPlacing_any l who _ _ c c' n _ H.out H'.out hl hc Hs.out hl' hc').mono ?_; rintro e w1 ⟨rfl, hb1⟩) | (go_at_call 92; refine (l1In_any _ _ _ _).mono ?_; rintro e w' ⟨rfl, rfl⟩) | (go_at_call 93; refine (l1Own_any who _ _ _ ((H'.out.below hb1 (Nat.le_refl _)).more hb1.size) hl' hpos).mono ?_; rintro e w2 ⟨A2, c2, rfl, hc2, ho, hb2⟩; obtain ⟨g2, rfl, hg2a, hg2b, hg2c⟩ := ho.some_of hpos; have x0 := (ho.cellInt a ha).1; have f0 := (ho.cellInt a ha).2; have x1 := (ho.cellInt b hb).1; have f1 := (ho.cellInt b hb).2; have hb3 : Below w.heap.size w w2 := hb1.trans (hb2.mono hb1.size); have s0 : w2.cell? ⟨gw, offw + a, none⟩ = some (.int .i64 who[a]) := (hb3.cell (p := ⟨gw, offw + a, none⟩) hgw).trans q0.out; have s1 : w2.cell? ⟨gw, offw + b, none⟩ = some (.int .i64 who[b]) := (hb3.cell (p := ⟨gw, offw + b, none⟩) hgw).trans q1.out; have hgne : ¬ gw = g2 := by have := hb1.size; omega) | (go_at_call 94; have hb4 : Hid (Below w.heap.size w ((w2.setCell ⟨g2, a, none⟩ (.int .i64 who[b])).setCell ⟨g2, b, none⟩ (.int .i64 who[a]))) := Lib.hid ((hb3.setCell (p := ⟨g2, a, none⟩) (by have := hb1.size; show w.heap.size ≤ g2; omega) _).setCell (p := ⟨g2, b, none⟩) (by have := hb1.size; show w.heap.size ≤ g2; omega) _); have hx4 : Hid (RdL ((w2.setCell ⟨g2, a, none⟩ (.int .i64 who[b])).setCell ⟨g2, b, none⟩ (.int .i64 who[a])) ((w2.setCell ⟨g2, a, none⟩ (.int .i64 who[b])).setCell ⟨g2, b, none⟩ (.int .i64 who[a])).heap.size (some ⟨g2, 0, none⟩) 1 encInt (exch who a b)) := Lib.hid (by have := ((ho.setInt a ha who[b]).setInt b (by simpa using hb) who[a]).rd encInt_len; unfold exch; rw [List.getD_eq_getElem?_getD, List.getD_eq_getElem?_getD, List.getElem?_eq_getElem ha, List.getElem?_eq_getElem hb]; exact this); generalize ((w2.setCell ⟨g2, a, none⟩ (.int .i64 who[b])).setCell ⟨g2, b, none⟩ (.int .i64 who[a])) = w4 at hb4 hx4 ⊢; refine (hG.out w4 ((H.out.below hb4.out (Nat.le_refl _)).more hb4.out.size) _ c2 hx4.out hc2).mono ?_; rintro e w5 ⟨rfl, rfl⟩) | (go_at_call 75; first | (with_reducible show Calls _ _ #[_, Value.slice (some ⟨g2, 0, none⟩) _ _] _ _; refine (hK.out w4 ((H.out.below hb4.out (Nat.le_refl _)).more hb4.out.size) _ c2 hx4.out).mono ?_; rintro e w5 ⟨rfl, rfl⟩) | (refine (hK2.out w4 hb4.out).mono ?_; rintro e w5 ⟨rfl, rfl⟩)))
  go_ret2
  exact ⟨by rw [hgv.out]; rfl, hb4.out⟩
set_option maxHeartbeats 3200000 in
theorem iGainOf_t (l : List Pk) (who : List Int) (A A' : Option Addr) (c c' : Nat) (n i j : Int) (w : World) (h : RdP w w.heap.size A l) (h' : RdL w w.heap.size A' 1 encInt who) (hl : l.length ≤ 1048576) (hc : l.length ≤ c) (hs : ∀ x ∈ l, Person_small 1048576 x) (hl' : who.length ≤ 1048576) (hc' : who.length ≤ c') (hp : gainP l n who i j) :
    Calls Try.prog 30 #[.slice A l.length c, .int .i64 n, .slice A' who.length c', .int .i64 i, .int .i64 j] w fun e w' => e = .returned (.tuple #[.int .i64 (gainV l who i j), .bool true]) ∧ Below w.heap.size w w' := by
  have H := Lib.hid h
  have H' := Lib.hid h'
  have Hs := Lib.hid hs
  have HP := Lib.hid hp.1
  have e1 := B_t hp.1
  have e2 := B_t hp.2.1
  have e3 := B_t hp.2.2.1
  have hij := hp.2.2.2.1
  have hn3 : n ≤ 7 := hp.1.1.1.2
  have hwn : (who.length : Int) = n := hp.1.2.1
  obtain ⟨i1, i2⟩ := hp.2.1
  obtain ⟨j1, j2⟩ := hp.2.2.1
  have h5 := Lib.hid hp.2.2.2.2
  clear h h' hs hp
  obtain ⟨a, ha0⟩ := Int.eq_ofNat_of_zero_le (show 0 ≤ i - 1 by omega)
  obtain ⟨b, hb0⟩ := Int.eq_ofNat_of_zero_le (show 0 ≤ j - 1 by omega)
  obtain rfl : i = (a : Int) + 1 := by omega
  obtain rfl : j = (b : Int) + 1 := by omega
  have ha : a < who.length := by omega
  have hb : b < who.length := by omega
  have hab : ¬ a = b := by omega
  have hpos : 0 < who.length := by omega
  have h5' := h5.out
  have hgv : Hid (gainV l who ((a : Int) + 1) ((b : Int) + 1) = skTo l (exch who a b) who.length - skTo l who who.length) := Lib.hid (by unfold gainV; simp)
  simp only [show ((a : Int) + 1 - 1).toNat = a from by omega, show ((b : Int) + 1 - 1).toNat = b from by omega] at h5'
  have e5 := B_t h5'
  have H5 := Lib.hid h5'
  have b1 := skTo_bound HP.out.1 HP.out.2.1 HP.out.2.2 who.length (Nat.le_refl _)
  have b2 := skTo_bound HP.out.1 (who := exch who a b) (by rw [exch_len]; exact HP.out.2.1) H5.out who.length (by rw [exch_len]; exact Nat.le_refl _)
  clear h5 h5' ha0 hb0
  obtain ⟨gw, offw, hAw, hgw, hcw⟩ := H'.out.at ha
  obtain ⟨gw', offw', hAw', hgw', hcw'⟩ := H'.out.at hb
  rw [hAw] at hAw'
  simp only [Option.some.injEq, Addr.mk.injEq, and_true] at hAw'
  obtain ⟨rfl, rfl⟩ := hAw'
  subst hAw
  have q0 : Hid (w.cell? ⟨gw, offw + a, none⟩ = some (.int .i64 who[a])) := Lib.hid (by have := hcw 0 _ rfl; rw [Nat.mul_one] at this; exact this)
  have q1 : Hid (w.cell? ⟨gw, offw + b, none⟩ = some (.int .i64 who[b])) := Lib.hid (by have := hcw' 0 _ rfl; rw [Nat.mul_one] at this; exact this)
  clear hcw hcw'
  have hK : Hid (∀ (W : World), RdP W W.heap.size A l → ∀ (A2 : Option Addr) (c2 : Nat), RdL W W.heap.size A2 1 encInt (exch who a b) → Calls Try.prog 78 #[.slice A l.length c, .slice A2 who.length c2] W fun e w' => e = .returned (.int .i64 (skTo l (exch who a b) who.length)) ∧ W = w') := Lib.hid (fun W h A2 c2 h2 => by
    have := skillOf_any l (exch who a b) A A2 c c2 n W h h2 hl (by rw [exch_len]; exact hl') HP.out.1 (by rw [exch_len]; exact HP.out.2.1) H5.out
    rw [exch_len] at this; exact this)
  have hK2 : Hid (∀ (W : World), Below w.heap.size w W → Calls Try.prog 78 #[.slice A l.length c, .slice (some ⟨gw, offw, none⟩) who.length c'] W fun e w' => e = .returned (.int .i64 (skTo l who who.length)) ∧ W = w') := Lib.hid (fun W hb => skillOf_any l who A _ c c' n W ((H.out.below hb (Nat.le_refl _)).more hb.size) ((H'.out.below hb (Nat.le_refl _)).more hb.size) hl hl' HP.out.1 HP.out.2.1 HP.out.2.2)
  obtain ⟨b11, b12⟩ := b1
  obtain ⟨b21, b22⟩ := b2
  have hw7 : (who.length : Int) ≤ 7 := by omega
  have hG : Hid (∀ (W : World), RdP W W.heap.size A l → ∀ (A2 : Option Addr) (c2 : Nat), RdL W W.heap.size A2 1 encInt (exch who a b) → who.length ≤ c2 → Calls Try.prog 97 #[.slice A l.length c, .int .i64 n, .slice A2 who.length c2] W fun e w' => e = .returned (.bool (B (seatsP l (exch who a b)))) ∧ W = w') := Lib.hid (fun W h A2 c2 h2 h3 => by
  have := isPlacing_any l (exch who a b) A A2 c c2 n W h h2 hl (by rw [exch_len]; exact hl') (by rw [exch_len]; exact h3) HP.out.1 (by rw [exch_len]; exact HP.out.2.1)
  rw [exch_len] at this; exact this)
  go_enter Try.func30, Try.ntmps30
  go_wp2_with (first | (go_at_call 77; refine (iPlacing_any l who _ _ c c' n _ H.out H'.out hl hc Hs.out hl' hc').mono ?_; rintro e w1 ⟨rfl, hb1⟩) | (go_at_call 95; refine (isBell_any _ _ _).mono ?_; rintro e w' ⟨rfl, rfl⟩) | (go_at_call 96; refine (cloneInt_any who _ _ _ ((H'.out.below hb1 (Nat.le_refl _)).more hb1.size) hl' hpos).mono ?_; rintro e w2 ⟨A2, c2, rfl, hc2, ho, hb2⟩; obtain ⟨g2, rfl, hg2a, hg2b, hg2c⟩ := ho.some_of hpos; have x0 := (ho.cellInt a ha).1; have f0 := (ho.cellInt a ha).2; have x1 := (ho.cellInt b hb).1; have f1 := (ho.cellInt b hb).2; have hb3 : Below w.heap.size w w2 := hb1.trans (hb2.mono hb1.size); have s0 : w2.cell? ⟨gw, offw + a, none⟩ = some (.int .i64 who[a]) := (hb3.cell (p := ⟨gw, offw + a, none⟩) hgw).trans q0.out; have s1 : w2.cell? ⟨gw, offw + b, none⟩ = some (.int .i64 who[b]) := (hb3.cell (p := ⟨gw, offw + b, none⟩) hgw).trans q1.out; have hgne : ¬ gw = g2 := by have := hb1.size; omega))
  go_region
  have hb4 : Hid (Below w.heap.size w ((w2.setCell ⟨g2, a, none⟩ (.int .i64 who[b])).setCell ⟨g2, b, none⟩ (.int .i64 who[a])).drew) := Lib.hid (((hb3.setCell (p := ⟨g2, a, none⟩) (by have := hb1.size; show w.heap.size ≤ g2; omega) _).setCell (p := ⟨g2, b, none⟩) (by have := hb1.size; show w.heap.size ≤ g2; omega) _).drew)
  have hx4 : Hid (RdL ((w2.setCell ⟨g2, a, none⟩ (.int .i64 who[b])).setCell ⟨g2, b, none⟩ (.int .i64 who[a])).drew ((w2.setCell ⟨g2, a, none⟩ (.int .i64 who[b])).setCell ⟨g2, b, none⟩ (.int .i64 who[a])).drew.heap.size (some ⟨g2, 0, none⟩) 1 encInt (exch who a b)) := Lib.hid (by
    have := ((ho.setInt a ha who[b]).setInt b (by simpa using hb) who[a]).rd encInt_len
    unfold exch; rw [List.getD_eq_getElem?_getD, List.getD_eq_getElem?_getD, List.getElem?_eq_getElem ha, List.getElem?_eq_getElem hb]; exact this)
  generalize ((w2.setCell ⟨g2, a, none⟩ (.int .i64 who[b])).setCell ⟨g2, b, none⟩ (.int .i64 who[a])).drew = w4 at hb4 hx4 ⊢
  clear x0 x1 f0 f1 s0 s1
  go_wp2_with (first | (go_at_call 97; refine (hG.out w4 ((H.out.below hb4.out (Nat.le_refl _)).more hb4.out.size) _ c2 hx4.out hc2).mono ?_; rintro e w5 ⟨rfl, rfl⟩) | (go_at_call 78; first | (with_reducible show Calls _ _ #[_, Value.slice (some ⟨g2, 0, none⟩) _ _] _ _; refine (hK.out w4 ((H.out.below hb4.out (Nat.le_refl _)).more hb4.out.size) _ c2 hx4.out).mono ?_; rintro e w5 ⟨rfl, rfl⟩) | (refine (hK2.out w4 hb4.out).mono ?_; rintro e w5 ⟨rfl, rfl⟩)))
  go_ret2
  exact ⟨by rw [hgv.out]; rfl, hb4.out⟩

set_option maxHeartbeats 3200000 in
theorem sGainOf_f (l : List Pk) (who : List Int) (A A' : Option Addr) (c c' : Nat) (n i j : Int) (w : World) (h : RdP w w.heap.size A l) (h' : RdL w w.heap.size A' 1 encInt who) (hl : l.length ≤ 1048576) (hc : l.length ≤ c) (hs : ∀ x ∈ l, Person_small 1048576 x) (hl' : who.length ≤ 1048576) (hc' : who.length ≤ c') (hp : ¬ gainP l n who i j) :
    Calls Try.prog 29 #[.slice A l.length c, .int .i64 n, .slice A' who.length c', .int .i64 i, .int .i64 j] w fun e w' => e = .returned (.tuple #[.int .i64 0, .bool false]) ∧ Below w.heap.size w w' := by
  have H := Lib.hid h
  have H' := Lib.hid h'
  have Hs := Lib.hid hs
  clear h h' hs
  by_cases p1 : placingP l n who
  · have HP := Lib.hid p1
    have e1 := B_t p1
    by_cases p2 : inB i 1 n
    · have e2 := B_t p2
      by_cases p3 : inB j 1 n
      · have e3 := B_t p3
        by_cases p4 : i = j
        · subst p4
          clear hp p1 p2 p3
          go_enter Try.func29, Try.ntmps29
          go_wp2_with (first | (go_at_call 74; refine (sPlacing_any l who _ _ c c' n _ H.out H'.out hl hc Hs.out hl' hc').mono ?_; rintro e w1 ⟨rfl, hb1⟩) | (go_at_call 92; refine (l1In_any _ _ _ _).mono ?_; rintro e w' ⟨rfl, rfl⟩))
          go_ret2
          exact ⟨rfl, hb1⟩
        · have p5 : ¬ seatsP l (exch who (i - 1).toNat (j - 1).toNat) := fun h => hp ⟨p1, p2, p3, p4, h⟩
          clear hp
          obtain ⟨i1, i2⟩ := p2
          obtain ⟨j1, j2⟩ := p3
          have hn3 : n ≤ 7 := p1.1.1.2
          have hwn : (who.length : Int) = n := p1.2.1
          clear p1
          obtain ⟨a, ha0⟩ := Int.eq_ofNat_of_zero_le (show 0 ≤ i - 1 by omega)
          obtain ⟨b, hb0⟩ := Int.eq_ofNat_of_zero_le (show 0 ≤ j - 1 by omega)
          obtain rfl : i = (a : Int) + 1 := by omega
          obtain rfl : j = (b : Int) + 1 := by omega
          have ha : a < who.length := by omega
          have hb : b < who.length := by omega
          have hab : ¬ a = b := by omega
          have hpos : 0 < who.length := by omega
          simp only [show ((a : Int) + 1 - 1).toNat = a from by omega, show ((b : Int) + 1 - 1).toNat = b from by omega] at p5
          have e5 := B_f p5
          clear p5 ha0 hb0
          obtain ⟨gw, offw, hAw, hgw, hcw⟩ := H'.out.at ha
          obtain ⟨gw', offw', hAw', hgw', hcw'⟩ := H'.out.at hb
          rw [hAw] at hAw'
          simp only [Option.some.injEq, Addr.mk.injEq, and_true] at hAw'
          obtain ⟨rfl, rfl⟩ := hAw'
          subst hAw
          have q0 : Hid (w.cell? ⟨gw, offw + a, none⟩ = some (.int .i64 who[a])) := Lib.hid (by have := hcw 0 _ rfl; rw [Nat.mul_one] at this; exact this)
          have q1 : Hid (w.cell? ⟨gw, offw + b, none⟩ = some (.int .i64 who[b])) := Lib.hid (by have := hcw' 0 _ rfl; rw [Nat.mul_one] at this; exact this)
          clear hcw hcw'
          have hG : Hid (∀ (W : World), RdP W W.heap.size A l → ∀ (A2 : Option Addr) (c2 : Nat), RdL W W.heap.size A2 1 encInt (exch who a b) → who.length ≤ c2 → Calls Try.prog 94 #[.slice A l.length c, .int .i64 n, .slice A2 who.length c2] W fun e w' => e = .returned (.bool (B (seatsP l (exch who a b)))) ∧ W = w') := Lib.hid (fun W h A2 c2 h2 h3 => by
          have := l27Good_any l (exch who a b) A A2 c c2 n W h h2 hl (by rw [exch_len]; exact hl') (by rw [exch_len]; exact h3) HP.out.1 (by rw [exch_len]; exact HP.out.2.1)
          rw [exch_len] at this; exact this)
          go_enter Try.func29, Try.ntmps29
          go_wp2_with (first | (go_at_call 74; refine (sPlacing_any l who _ _ c c' n _ H.out H'.out hl hc Hs.out hl' hc').mono ?_; rintro e w1 ⟨rfl, hb1⟩) | (go_at_call 92; refine (l1In_any _ _ _ _).mono ?_; rintro e w' ⟨rfl, rfl⟩) | (go_at_call 93; refine (l1Own_any who _ _ _ ((H'.out.below hb1 (Nat.le_refl _)).more hb1.size) hl' hpos).mono ?_; rintro e w2 ⟨A2, c2, rfl, hc2, ho, hb2⟩; obtain ⟨g2, rfl, hg2a, hg2b, hg2c⟩ := ho.some_of hpos; have x0 := (ho.cellInt a ha).1; have f0 := (ho.cellInt a ha).2; have x1 := (ho.cellInt b hb).1; have f1 := (ho.cellInt b hb).2; have hb3 : Below w.heap.size w w2 := hb1.trans (hb2.mono hb1.size); have s0 : w2.cell? ⟨gw, offw + a, none⟩ = some (.int .i64 who[a]) := (hb3.cell (p := ⟨gw, offw + a, none⟩) hgw).trans q0.out; have s1 : w2.cell? ⟨gw, offw + b, none⟩ = some (.int .i64 who[b]) := (hb3.cell (p := ⟨gw, offw + b, none⟩) hgw).trans q1.out; have hgne : ¬ gw = g2 := by have := hb1.size; omega) | (go_at_call 94; have hb4 : Hid (Below w.heap.size w ((w2.setCell ⟨g2, a, none⟩ (.int .i64 who[b])).setCell ⟨g2, b, none⟩ (.int .i64 who[a]))) := Lib.hid ((hb3.setCell (p := ⟨g2, a, none⟩) (by have := hb1.size; show w.heap.size ≤ g2; omega) _).setCell (p := ⟨g2, b, none⟩) (by have := hb1.size; show w.heap.size ≤ g2; omega) _); have hx4 : Hid (RdL ((w2.setCell ⟨g2, a, none⟩ (.int .i64 who[b])).setCell ⟨g2, b, none⟩ (.int .i64 who[a])) ((w2.setCell ⟨g2, a, none⟩ (.int .i64 who[b])).setCell ⟨g2, b, none⟩ (.int .i64 who[a])).heap.size (some ⟨g2, 0, none⟩) 1 encInt (exch who a b)) := Lib.hid (by have := ((ho.setInt a ha who[b]).setInt b (by simpa using hb) who[a]).rd encInt_len; unfold exch; rw [List.getD_eq_getElem?_getD, List.getD_eq_getElem?_getD, List.getElem?_eq_getElem ha, List.getElem?_eq_getElem hb]; exact this); generalize ((w2.setCell ⟨g2, a, none⟩ (.int .i64 who[b])).setCell ⟨g2, b, none⟩ (.int .i64 who[a])) = w4 at hb4 hx4 ⊢; refine (hG.out w4 ((H.out.below hb4.out (Nat.le_refl _)).more hb4.out.size) _ c2 hx4.out hc2).mono ?_; rintro e w5 ⟨rfl, rfl⟩))
          go_ret2
          exact ⟨rfl, hb4.out⟩
      · have e3 := B_f p3
        clear hp p1 p2 p3
        go_enter Try.func29, Try.ntmps29
        go_wp2_with (first | (go_at_call 74; refine (sPlacing_any l who _ _ c c' n _ H.out H'.out hl hc Hs.out hl' hc').mono ?_; rintro e w1 ⟨rfl, hb1⟩) | (go_at_call 92; refine (l1In_any _ _ _ _).mono ?_; rintro e w' ⟨rfl, rfl⟩))
        go_ret2
        exact ⟨rfl, hb1⟩
    · have e2 := B_f p2
      clear hp p1 p2
      go_enter Try.func29, Try.ntmps29
      go_wp2_with (first | (go_at_call 74; refine (sPlacing_any l who _ _ c c' n _ H.out H'.out hl hc Hs.out hl' hc').mono ?_; rintro e w1 ⟨rfl, hb1⟩) | (go_at_call 92; refine (l1In_any _ _ _ _).mono ?_; rintro e w' ⟨rfl, rfl⟩))
      go_ret2
      exact ⟨rfl, hb1⟩
  · have e1 := B_f p1
    clear hp p1
    go_enter Try.func29, Try.ntmps29
    go_wp2_with (first | (go_at_call 74; refine (sPlacing_any l who _ _ c c' n _ H.out H'.out hl hc Hs.out hl' hc').mono ?_; rintro e w1 ⟨rfl, hb1⟩) | (go_at_call 92; refine (l1In_any _ _ _ _).mono ?_; rintro e w' ⟨rfl, rfl⟩))
    go_ret2
    exact ⟨rfl, hb1⟩
set_option maxHeartbeats 3200000 in
theorem iGainOf_f (l : List Pk) (who : List Int) (A A' : Option Addr) (c c' : Nat) (n i j : Int) (w : World) (h : RdP w w.heap.size A l) (h' : RdL w w.heap.size A' 1 encInt who) (hl : l.length ≤ 1048576) (hc : l.length ≤ c) (hs : ∀ x ∈ l, Person_small 1048576 x) (hl' : who.length ≤ 1048576) (hc' : who.length ≤ c') (hp : ¬ gainP l n who i j) :
    Calls Try.prog 30 #[.slice A l.length c, .int .i64 n, .slice A' who.length c', .int .i64 i, .int .i64 j] w fun e w' => e = .returned (.tuple #[.int .i64 0, .bool false]) ∧ Below w.heap.size w w' := by
  have H := Lib.hid h
  have H' := Lib.hid h'
  have Hs := Lib.hid hs
  clear h h' hs
  by_cases p1 : placingP l n who
  · have HP := Lib.hid p1
    have e1 := B_t p1
    by_cases p2 : inB i 1 n
    · have e2 := B_t p2
      by_cases p3 : inB j 1 n
      · have e3 := B_t p3
        by_cases p4 : i = j
        · subst p4
          clear hp p1 p2 p3
          go_enter Try.func30, Try.ntmps30
          go_wp2_with (first | (go_at_call 77; refine (iPlacing_any l who _ _ c c' n _ H.out H'.out hl hc Hs.out hl' hc').mono ?_; rintro e w1 ⟨rfl, hb1⟩) | (go_at_call 95; refine (isBell_any _ _ _).mono ?_; rintro e w' ⟨rfl, rfl⟩))
          go_ret2
          exact ⟨rfl, hb1⟩
        · have p5 : ¬ seatsP l (exch who (i - 1).toNat (j - 1).toNat) := fun h => hp ⟨p1, p2, p3, p4, h⟩
          clear hp
          obtain ⟨i1, i2⟩ := p2
          obtain ⟨j1, j2⟩ := p3
          have hn3 : n ≤ 7 := p1.1.1.2
          have hwn : (who.length : Int) = n := p1.2.1
          clear p1
          obtain ⟨a, ha0⟩ := Int.eq_ofNat_of_zero_le (show 0 ≤ i - 1 by omega)
          obtain ⟨b, hb0⟩ := Int.eq_ofNat_of_zero_le (show 0 ≤ j - 1 by omega)
          obtain rfl : i = (a : Int) + 1 := by omega
          obtain rfl : j = (b : Int) + 1 := by omega
          have ha : a < who.length := by omega
          have hb : b < who.length := by omega
          have hab : ¬ a = b := by omega
          have hpos : 0 < who.length := by omega
          simp only [show ((a : Int) + 1 - 1).toNat = a from by omega, show ((b : Int) + 1 - 1).toNat = b from by omega] at p5
          have e5 := B_f p5
          clear p5 ha0 hb0
          obtain ⟨gw, offw, hAw, hgw, hcw⟩ := H'.out.at ha
          obtain ⟨gw', offw', hAw', hgw', hcw'⟩ := H'.out.at hb
          rw [hAw] at hAw'
          simp only [Option.some.injEq, Addr.mk.injEq, and_true] at hAw'
          obtain ⟨rfl, rfl⟩ := hAw'
          subst hAw
          have q0 : Hid (w.cell? ⟨gw, offw + a, none⟩ = some (.int .i64 who[a])) := Lib.hid (by have := hcw 0 _ rfl; rw [Nat.mul_one] at this; exact this)
          have q1 : Hid (w.cell? ⟨gw, offw + b, none⟩ = some (.int .i64 who[b])) := Lib.hid (by have := hcw' 0 _ rfl; rw [Nat.mul_one] at this; exact this)
          clear hcw hcw'
          have hG : Hid (∀ (W : World), RdP W W.heap.size A l → ∀ (A2 : Option Addr) (c2 : Nat), RdL W W.heap.size A2 1 encInt (exch who a b) → who.length ≤ c2 → Calls Try.prog 97 #[.slice A l.length c, .int .i64 n, .slice A2 who.length c2] W fun e w' => e = .returned (.bool (B (seatsP l (exch who a b)))) ∧ W = w') := Lib.hid (fun W h A2 c2 h2 h3 => by
          have := isPlacing_any l (exch who a b) A A2 c c2 n W h h2 hl (by rw [exch_len]; exact hl') (by rw [exch_len]; exact h3) HP.out.1 (by rw [exch_len]; exact HP.out.2.1)
          rw [exch_len] at this; exact this)
          go_enter Try.func30, Try.ntmps30
          go_wp2_with (first | (go_at_call 77; refine (iPlacing_any l who _ _ c c' n _ H.out H'.out hl hc Hs.out hl' hc').mono ?_; rintro e w1 ⟨rfl, hb1⟩) | (go_at_call 95; refine (isBell_any _ _ _).mono ?_; rintro e w' ⟨rfl, rfl⟩) | (go_at_call 96; refine (cloneInt_any who _ _ _ ((H'.out.below hb1 (Nat.le_refl _)).more hb1.size) hl' hpos).mono ?_; rintro e w2 ⟨A2, c2, rfl, hc2, ho, hb2⟩; obtain ⟨g2, rfl, hg2a, hg2b, hg2c⟩ := ho.some_of hpos; have x0 := (ho.cellInt a ha).1; have f0 := (ho.cellInt a ha).2; have x1 := (ho.cellInt b hb).1; have f1 := (ho.cellInt b hb).2; have hb3 : Below w.heap.size w w2 := hb1.trans (hb2.mono hb1.size); have s0 : w2.cell? ⟨gw, offw + a, none⟩ = some (.int .i64 who[a]) := (hb3.cell (p := ⟨gw, offw + a, none⟩) hgw).trans q0.out; have s1 : w2.cell? ⟨gw, offw + b, none⟩ = some (.int .i64 who[b]) := (hb3.cell (p := ⟨gw, offw + b, none⟩) hgw).trans q1.out; have hgne : ¬ gw = g2 := by have := hb1.size; omega))
          go_region
          have hb4 : Hid (Below w.heap.size w ((w2.setCell ⟨g2, a, none⟩ (.int .i64 who[b])).setCell ⟨g2, b, none⟩ (.int .i64 who[a])).drew) := Lib.hid (((hb3.setCell (p := ⟨g2, a, none⟩) (by have := hb1.size; show w.heap.size ≤ g2; omega) _).setCell (p := ⟨g2, b, none⟩) (by have := hb1.size; show w.heap.size ≤ g2; omega) _).drew)
          have hx4 : Hid (RdL ((w2.setCell ⟨g2, a, none⟩ (.int .i64 who[b])).setCell ⟨g2, b, none⟩ (.int .i64 who[a])).drew ((w2.setCell ⟨g2, a, none⟩ (.int .i64 who[b])).setCell ⟨g2, b, none⟩ (.int .i64 who[a])).drew.heap.size (some ⟨g2, 0, none⟩) 1 encInt (exch who a b)) := Lib.hid (by
            have := ((ho.setInt a ha who[b]).setInt b (by simpa using hb) who[a]).rd encInt_len
            unfold exch; rw [List.getD_eq_getElem?_getD, List.getD_eq_getElem?_getD, List.getElem?_eq_getElem ha, List.getElem?_eq_getElem hb]; exact this)
          generalize ((w2.setCell ⟨g2, a, none⟩ (.int .i64 who[b])).setCell ⟨g2, b, none⟩ (.int .i64 who[a])).drew = w4 at hb4 hx4 ⊢
          clear x0 x1 f0 f1 s0 s1
          go_wp2_with (go_at_call 97; refine (hG.out w4 ((H.out.below hb4.out (Nat.le_refl _)).more hb4.out.size) _ c2 hx4.out hc2).mono ?_; rintro e w5 ⟨rfl, rfl⟩)
          go_ret2
          exact ⟨rfl, hb4.out⟩
      · have e3 := B_f p3
        clear hp p1 p2 p3
        go_enter Try.func30, Try.ntmps30
        go_wp2_with (first | (go_at_call 77; refine (iPlacing_any l who _ _ c c' n _ H.out H'.out hl hc Hs.out hl' hc').mono ?_; rintro e w1 ⟨rfl, hb1⟩) | (go_at_call 95; refine (isBell_any _ _ _).mono ?_; rintro e w' ⟨rfl, rfl⟩))
        go_ret2
        exact ⟨rfl, hb1⟩
    · have e2 := B_f p2
      clear hp p1 p2
      go_enter Try.func30, Try.ntmps30
      go_wp2_with (first | (go_at_call 77; refine (iPlacing_any l who _ _ c c' n _ H.out H'.out hl hc Hs.out hl' hc').mono ?_; rintro e w1 ⟨rfl, hb1⟩) | (go_at_call 95; refine (isBell_any _ _ _).mono ?_; rintro e w' ⟨rfl, rfl⟩))
      go_ret2
      exact ⟨rfl, hb1⟩
  · have e1 := B_f p1
    clear hp p1
    go_enter Try.func30, Try.ntmps30
    go_wp2_with (first | (go_at_call 77; refine (iPlacing_any l who _ _ c c' n _ H.out H'.out hl hc Hs.out hl' hc').mono ?_; rintro e w1 ⟨rfl, hb1⟩) | (go_at_call 95; refine (isBell_any _ _ _).mono ?_; rintro e w' ⟨rfl, rfl⟩))
    go_ret2
    exact ⟨rfl, hb1⟩
set_option maxHeartbeats 4000000 in
theorem gainLaw (w : World) (l : List Pk) (Al : Option Addr) (cl : Nat) (hrl : RdP w w.heap.size Al l) (hll : l.length ≤ 9223372036854775807) (hsl : ∀ x ∈ l, Person_small 9223372036854775807 x) (n : Int) (hszn : -9223372036854775808 ≤ n ∧ n ≤ 9223372036854775807) (who : List Int) (Awho : Option Addr) (cwho : Nat) (hrwho : RdL w w.heap.size Awho 1 encInt who) (hlwho : who.length ≤ 9223372036854775807) (hswho : ∀ x ∈ who, Int_small 9223372036854775807 x) (i : Int) (hszi : -9223372036854775808 ≤ i ∧ i ≤ 9223372036854775807) (j : Int) (hszj : -9223372036854775808 ≤ j ∧ j ≤ 9223372036854775807) :
    Calls Try.prog 6 #[.slice Al l.length cl, .int .i64 n, .slice Awho who.length cwho, .int .i64 i, .int .i64 j] w fun e w' => e = .returned (.bool true) ∧ Below w.heap.size w w' := by
  have Hrl := Lib.hid hrl
  have Hsl := Lib.hid hsl
  clear hrl hsl
  have Hrwho := Lib.hid hrwho
  have Hswho := Lib.hid hswho
  clear hrwho hswho
  by_cases gwho : 1048576 < who.length
  · go_enter Try.func6, Try.ntmps6
    go_wp2
    go_ret
    exact ⟨rfl, Below.refl _ _⟩
  have hlwho' : who.length ≤ 1048576 := by omega
  have Bw0 := Lib.hid (Below.refl w.heap.size w)
  go_enter Try.func6, Try.ntmps6
  go_wp2_with fail
  refine (szPersonS_any l Al cl (1048576 : Int) _ ((Hrl.out.below Bw0.out (Nat.le_refl _)).more Bw0.out.size) (by omega) (by omega) (by omega) Hsl.out).mono ?_
  rintro e w1 ⟨r1, rfl, hz, hb⟩
  have C1 := Lib.hid hb
  clear hb
  have t1 := C1.out.size
  have Bw1 := Lib.hid (Bw0.out.trans (C1.out.mono Bw0.out.size))
  have Z1 := Lib.hid hz
  clear hz
  by_cases n1 : r1 < 0
  · go_wp2_with fail
    go_ret
    exact ⟨rfl, Bw1.out⟩
  have z1 := Z1.out.resolve_left n1
  have y1 : 0 ≤ r1 ∧ r1 ≤ 1048576 ∧ l.length ≤ 1048576 := ⟨z1.1, by have := z1.2.1; omega, by have := z1.2.2.1; omega⟩
  obtain ⟨y1a, y1b, hll'⟩ := y1
  have Hml : Hid (∀ x ∈ l, Person_small 1048576 x) := Lib.hid (fun x hx => by have := z1.2.2.2 x hx; simp only [Person_small] at this ⊢; omega)
  clear z1
  by_cases h : gainP l n who i j
  · have H := Lib.hid h
    clear h
    go_wp2_with fail
    refine (toPersonS_any l Al cl _ ((Hrl.out.below Bw1.out (Nat.le_refl _)).more Bw1.out.size) (by omega) Hml.out).mono ?_
    rintro e w2 ⟨A2, rfl, ho, hb⟩
    have C2 := Lib.hid hb
    clear hb
    have t2 := C2.out.size
    have Bw2 := Lib.hid (Bw1.out.trans (C2.out.mono Bw1.out.size))
    have O_t1_2 := Lib.hid ho
    clear ho
    go_wp2_with fail
    refine (toIntS_any who Awho cwho _ ((Hrwho.out.below Bw2.out (Nat.le_refl _)).more Bw2.out.size) (by omega)).mono ?_
    rintro e w3 ⟨A3, rfl, ho, hb⟩
    have C3 := Lib.hid hb
    clear hb
    have t3 := C3.out.size
    have Bw3 := Lib.hid (Bw2.out.trans (C3.out.mono Bw2.out.size))
    have O_t2_3 := Lib.hid ho
    clear ho
    have O_t1_3 := Lib.hid (O_t1_2.out.later C3.out)
    clear O_t1_2
    go_wp2_with fail
    refine (sGainOf_t l who A2 A3 l.length who.length n i j _ (O_t1_3.out.rd trivial) (O_t2_3.out.rd encInt_len) (by omega) (Nat.le_refl _) Hml.out (by omega) (Nat.le_refl _) H.out).mono ?_
    rintro e w4 ⟨rfl, hb⟩
    have C4 := Lib.hid hb
    clear hb
    have t4 := C4.out.size
    have Bw4 := Lib.hid (Bw3.out.trans (C4.out.mono Bw3.out.size))
    go_wp2_with fail
    refine (toPersonS_any l Al cl _ ((Hrl.out.below Bw4.out (Nat.le_refl _)).more Bw4.out.size) (by omega) Hml.out).mono ?_
    rintro e w5 ⟨A5, rfl, ho, hb⟩
    have C5 := Lib.hid hb
    clear hb
    have t5 := C5.out.size
    have Bw5 := Lib.hid (Bw4.out.trans (C5.out.mono Bw4.out.size))
    have O_x0_5 := Lib.hid ho
    clear ho
    go_wp2_with fail
    refine (toIntS_any who Awho cwho _ ((Hrwho.out.below Bw5.out (Nat.le_refl _)).more Bw5.out.size) (by omega)).mono ?_
    rintro e w6 ⟨A6, rfl, ho, hb⟩
    have C6 := Lib.hid hb
    clear hb
    have t6 := C6.out.size
    have Bw6 := Lib.hid (Bw5.out.trans (C6.out.mono Bw5.out.size))
    have O_x2_6 := Lib.hid ho
    clear ho
    have O_x0_6 := Lib.hid (O_x0_5.out.later C6.out)
    clear O_x0_5
    go_wp2_with fail
    refine (iGainOf_t l who A5 A6 l.length who.length n i j _ (O_x0_6.out.rd trivial) (O_x2_6.out.rd encInt_len) (by omega) (Nat.le_refl _) Hml.out (by omega) (Nat.le_refl _) H.out).mono ?_
    rintro e w7 ⟨rfl, hb⟩
    have C7 := Lib.hid hb
    clear hb
    have t7 := C7.out.size
    have Bw7 := Lib.hid (Bw6.out.trans (C7.out.mono Bw6.out.size))
    have O_x0_7 := Lib.hid (O_x0_6.out.later C7.out)
    clear O_x0_6
    have O_x2_7 := Lib.hid (O_x2_6.out.later C7.out)
    clear O_x2_6
    go_wp2_with fail
    refine (toPersonS_any l Al cl _ ((Hrl.out.below Bw7.out (Nat.le_refl _)).more Bw7.out.size) (by omega) Hml.out).mono ?_
    rintro e w8 ⟨A8, rfl, ho, hb⟩
    have C8 := Lib.hid hb
    clear hb
    have t8 := C8.out.size
    have Bw8 := Lib.hid (Bw7.out.trans (C8.out.mono Bw7.out.size))
    have O_t7_8 := Lib.hid ho
    clear ho
    have O_x0_8 := Lib.hid (O_x0_7.out.later C8.out)
    clear O_x0_7
    have O_x2_8 := Lib.hid (O_x2_7.out.later C8.out)
    clear O_x2_7
    go_wp2_with fail
    refine (eqPersonS_t l A5 A8 l.length l.length _ (O_x0_8.out.rd trivial) (O_t7_8.out.rd trivial) (by omega) Hml.out).mono ?_
    rintro e w9 ⟨rfl, hb⟩
    have C9 := Lib.hid hb
    clear hb
    have t9 := C9.out.size
    have Bw9 := Lib.hid (Bw8.out.trans (C9.out.mono Bw8.out.size))
    have O_x2_9 := Lib.hid (O_x2_8.out.later C9.out)
    clear O_x2_8
    go_wp2_with fail
    refine (toIntS_any who Awho cwho _ ((Hrwho.out.below Bw9.out (Nat.le_refl _)).more Bw9.out.size) (by omega)).mono ?_
    rintro e w10 ⟨A10, rfl, ho, hb⟩
    have C10 := Lib.hid hb
    clear hb
    have t10 := C10.out.size
    have Bw10 := Lib.hid (Bw9.out.trans (C10.out.mono Bw9.out.size))
    have O_t9_10 := Lib.hid ho
    clear ho
    have O_x2_10 := Lib.hid (O_x2_9.out.later C10.out)
    clear O_x2_9
    go_wp2_with fail
    refine (eqIntS_t who A6 A10 who.length who.length _ (O_x2_10.out.rd encInt_len) (O_t9_10.out.rd encInt_len) (by omega)).mono ?_
    rintro e w11 ⟨rfl, hb⟩
    have C11 := Lib.hid hb
    clear hb
    have t11 := C11.out.size
    have Bw11 := Lib.hid (Bw10.out.trans (C11.out.mono Bw10.out.size))
    go_wp2_with fail
    go_ret
    exact ⟨rfl, Bw11.out⟩
  · have H := Lib.hid h
    clear h
    go_wp2_with fail
    refine (toPersonS_any l Al cl _ ((Hrl.out.below Bw1.out (Nat.le_refl _)).more Bw1.out.size) (by omega) Hml.out).mono ?_
    rintro e w2 ⟨A2, rfl, ho, hb⟩
    have C2 := Lib.hid hb
    clear hb
    have t2 := C2.out.size
    have Bw2 := Lib.hid (Bw1.out.trans (C2.out.mono Bw1.out.size))
    have O_t1_2 := Lib.hid ho
    clear ho
    go_wp2_with fail
    refine (toIntS_any who Awho cwho _ ((Hrwho.out.below Bw2.out (Nat.le_refl _)).more Bw2.out.size) (by omega)).mono ?_
    rintro e w3 ⟨A3, rfl, ho, hb⟩
    have C3 := Lib.hid hb
    clear hb
    have t3 := C3.out.size
    have Bw3 := Lib.hid (Bw2.out.trans (C3.out.mono Bw2.out.size))
    have O_t2_3 := Lib.hid ho
    clear ho
    have O_t1_3 := Lib.hid (O_t1_2.out.later C3.out)
    clear O_t1_2
    go_wp2_with fail
    refine (sGainOf_f l who A2 A3 l.length who.length n i j _ (O_t1_3.out.rd trivial) (O_t2_3.out.rd encInt_len) (by omega) (Nat.le_refl _) Hml.out (by omega) (Nat.le_refl _) H.out).mono ?_
    rintro e w4 ⟨rfl, hb⟩
    have C4 := Lib.hid hb
    clear hb
    have t4 := C4.out.size
    have Bw4 := Lib.hid (Bw3.out.trans (C4.out.mono Bw3.out.size))
    go_wp2_with fail
    refine (toPersonS_any l Al cl _ ((Hrl.out.below Bw4.out (Nat.le_refl _)).more Bw4.out.size) (by omega) Hml.out).mono ?_
    rintro e w5 ⟨A5, rfl, ho, hb⟩
    have C5 := Lib.hid hb
    clear hb
    have t5 := C5.out.size
    have Bw5 := Lib.hid (Bw4.out.trans (C5.out.mono Bw4.out.size))
    have O_x0_5 := Lib.hid ho
    clear ho
    go_wp2_with fail
    refine (toIntS_any who Awho cwho _ ((Hrwho.out.below Bw5.out (Nat.le_refl _)).more Bw5.out.size) (by omega)).mono ?_
    rintro e w6 ⟨A6, rfl, ho, hb⟩
    have C6 := Lib.hid hb
    clear hb
    have t6 := C6.out.size
    have Bw6 := Lib.hid (Bw5.out.trans (C6.out.mono Bw5.out.size))
    have O_x2_6 := Lib.hid ho
    clear ho
    have O_x0_6 := Lib.hid (O_x0_5.out.later C6.out)
    clear O_x0_5
    go_wp2_with fail
    refine (iGainOf_f l who A5 A6 l.length who.length n i j _ (O_x0_6.out.rd trivial) (O_x2_6.out.rd encInt_len) (by omega) (Nat.le_refl _) Hml.out (by omega) (Nat.le_refl _) H.out).mono ?_
    rintro e w7 ⟨rfl, hb⟩
    have C7 := Lib.hid hb
    clear hb
    have t7 := C7.out.size
    have Bw7 := Lib.hid (Bw6.out.trans (C7.out.mono Bw6.out.size))
    have O_x0_7 := Lib.hid (O_x0_6.out.later C7.out)
    clear O_x0_6
    have O_x2_7 := Lib.hid (O_x2_6.out.later C7.out)
    clear O_x2_6
    go_wp2_with fail
    refine (toPersonS_any l Al cl _ ((Hrl.out.below Bw7.out (Nat.le_refl _)).more Bw7.out.size) (by omega) Hml.out).mono ?_
    rintro e w8 ⟨A8, rfl, ho, hb⟩
    have C8 := Lib.hid hb
    clear hb
    have t8 := C8.out.size
    have Bw8 := Lib.hid (Bw7.out.trans (C8.out.mono Bw7.out.size))
    have O_t7_8 := Lib.hid ho
    clear ho
    have O_x0_8 := Lib.hid (O_x0_7.out.later C8.out)
    clear O_x0_7
    have O_x2_8 := Lib.hid (O_x2_7.out.later C8.out)
    clear O_x2_7
    go_wp2_with fail
    refine (eqPersonS_t l A5 A8 l.length l.length _ (O_x0_8.out.rd trivial) (O_t7_8.out.rd trivial) (by omega) Hml.out).mono ?_
    rintro e w9 ⟨rfl, hb⟩
    have C9 := Lib.hid hb
    clear hb
    have t9 := C9.out.size
    have Bw9 := Lib.hid (Bw8.out.trans (C9.out.mono Bw8.out.size))
    have O_x2_9 := Lib.hid (O_x2_8.out.later C9.out)
    clear O_x2_8
    go_wp2_with fail
    refine (toIntS_any who Awho cwho _ ((Hrwho.out.below Bw9.out (Nat.le_refl _)).more Bw9.out.size) (by omega)).mono ?_
    rintro e w10 ⟨A10, rfl, ho, hb⟩
    have C10 := Lib.hid hb
    clear hb
    have t10 := C10.out.size
    have Bw10 := Lib.hid (Bw9.out.trans (C10.out.mono Bw9.out.size))
    have O_t9_10 := Lib.hid ho
    clear ho
    have O_x2_10 := Lib.hid (O_x2_9.out.later C10.out)
    clear O_x2_9
    go_wp2_with fail
    refine (eqIntS_t who A6 A10 who.length who.length _ (O_x2_10.out.rd encInt_len) (O_t9_10.out.rd encInt_len) (by omega)).mono ?_
    rintro e w11 ⟨rfl, hb⟩
    have C11 := Lib.hid hb
    clear hb
    have t11 := C11.out.size
    have Bw11 := Lib.hid (Bw10.out.trans (C11.out.mono Bw10.out.size))
    go_wp2_with fail
    go_ret
    exact ⟨rfl, Bw11.out⟩

namespace fnExactGainOf
open Go.ChangeShapes Go.WideShapes Go.ChangeAt Go.RowKit Go.Deep
open Go.ChangeMaps (open_string shut_string)
theorem own : ownKnob Try.prog.godebug = none := by kernel_rfl
theorem laid : laidOutB Try.prog = true := by kernel_rfl
theorem reads : Try.f6.params.toList.all (fun t => Try.prog.readableRec t && decide (t < Try.prog.types.size)) = true := by kernel_rfl
set_option maxRecDepth 100000 in
theorem lifted (os : Os) (started : os.Started) (H : Type) (enc : TypeId × Value → H) :
    ReturnsInHanded {} Try.checked os 6 .any (Rows.fnExactGainOfSpec.pre6 enc Try.prog Try.f6 Rows.fnExactGainOfRow.domain false) (Rows.fnExactGainOfSpec.post enc Try.prog Try.f6 false true false false) := by
  refine returnsInHanded_of_change (C := Try.checked) own started (by kernel_rfl) Try.func6
    (ChangeSpec.witness6 (enc := enc) (C := Try.checked) false ⟨#[], #[.slice none 0 0, .int .i64 0, .slice none 0 0, .int .i64 0, .int .i64 0], []⟩ 8 (by kernel_rfl) (by kernel_rfl) (by kernel_rfl) (by kernel_rfl)) ?_
  intro W base args ds gs before hval0 hW hcnd _
  have hval : ∀ (j : Nat) t v, Try.f6.params[j]? = some t → args[j]? = some v → Value.okWide Try.prog W .any base t v := hval0
  have hW' := hW
  obtain ⟨p, q, hA0, hV, rfl, hfz, hnd⟩ := hW
  have hA : DataW.TrodAll enc Try.prog W 0 (fun _ => true) true Try.f6.params.toList args.toList ds p := hA0
  rw [Try.params6] at hA hval
  obtain ⟨rfl, rfl⟩ := trodVars_none hV
  have hlt : ∀ x ∈ p, x.block < W.heap.size := fun x hx => by simpa using hW'.lt x (List.mem_append.2 (.inl hx))
  clear hA0 hval0
  obtain ⟨v0, vs0, d0, ds0, p0, q0, hargs, rfl, rfl, h0, r0⟩ := trodAll_cons hA
  obtain ⟨v1, vs1, d1, ds1, p1, q1, rfl, rfl, rfl, h1, r1⟩ := trodAll_cons r0
  obtain ⟨v2, vs2, d2, ds2, p2, q2, rfl, rfl, rfl, h2, r2⟩ := trodAll_cons r1
  obtain ⟨v3, vs3, d3, ds3, p3, q3, rfl, rfl, rfl, h3, r3⟩ := trodAll_cons r2
  obtain ⟨v4, vs4, d4, ds4, p4, q4, rfl, rfl, rfl, h4, r4⟩ := trodAll_cons r3
  obtain ⟨rfl, rfl, rfl⟩ := trodAll_nil r4
  obtain rfl : args = #[v0, v1, v2, v3, v4] := by cases args; simp_all
  clear hargs
  obtain ⟨A0, a0, c0, rfl, y0, x0, z0⟩ := open_list Try.underlying22 2 (by kernel_rfl) (by omega) Psn.enc _ Person_el (hval 0 22 v0 rfl rfl) h0
  obtain ⟨x0, z0⟩ := people_open x0 z0
  obtain ⟨a1, rfl, rfl, rfl, z1⟩ := open_int Try.underlying3 (hval 1 3 v1 rfl rfl) h1
  obtain ⟨A2, a2, c2, rfl, y2, x2, z2⟩ := open_list Try.underlying23 1 (by kernel_rfl) (by omega) encInt _ Int_el (hval 2 23 v2 rfl rfl) h2
  obtain ⟨a3, rfl, rfl, rfl, z3⟩ := open_int Try.underlying3 (hval 3 3 v3 rfl rfl) h3
  obtain ⟨a4, rfl, rfl, rfl, z4⟩ := open_int Try.underlying3 (hval 4 3 v4 rfl rfl) h4
  have hlaw := gainLaw W (a0.map Psn.key) A0 c0 x0 (by rw [List.length_map]; unfold maxLen at y0; omega) z0 a1 (by simpa [Lit.wf, IntKind.min, IntKind.max, IntKind.signed, IntKind.bits] using z1) a2 A2 c2 x2 (by unfold maxLen at y2; omega) z2 a3 (by simpa [Lit.wf, IntKind.min, IntKind.max, IntKind.signed, IntKind.bits] using z3) a4 (by simpa [Lit.wf, IntKind.min, IntKind.max, IntKind.signed, IntKind.bits] using z4)
  simp only [List.length_map] at hlaw
  refine (hlaw).mono fun e W' ⟨he, hg⟩ => ?_
  subst he
  exact ⟨_, rfl, law_post laid reads rfl Try.underlying4 rfl rfl hW' hg⟩
theorem over : Rows.fnExactGainOfRow.holds Try.pinned (OpenSpec.ofChange Rows.fnExactGainOfSpec) :=
  OpenClaim.holds_of_wide 6 Try.f6 rfl rfl rfl rfl rfl rfl rfl ⟨rfl, rfl, rfl, rfl, rfl⟩ rfl rfl rfl rfl rfl (by kernel_rfl) Try.func6 (by kernel_rfl)
    (of_decide_eq_true (by kernel_rfl)) (by unfold Func.isWrapper; first | (rw [if_pos (by decide +kernel)]; kernel_rfl) | (rw [if_neg (by decide +kernel)]; exact ⟨rfl, rfl⟩))
    (fun os started H enc _ => lifted os started H enc)
theorem proved : Rows.FnExactGainOfSaid := over
end fnExactGainOf
end Go.Proofs.Ytdegbckoejddeaa
