/-
  FitBeat of the program returns what the reference's returns, for all arguments: no condition.
-/
import Derived.Test.YtebmlcollanfhaaFit
import Derived.Test.YtebmlcollanfhaaFaFitBeat
namespace Go.Proofs.Ytebmlcollanfhaa
open Go.RowKit
set_option linter.unusedVariables false
set_option linter.unusedSimpArgs false
set_option maxRecDepth 100000

/-- A valid beat. -/
def beatP (t : Int × Int × Int) : Prop := inB t.1 0 1000000 ∧ inB t.2.1 1 2000 ∧ inB t.2.2 0 2000

theorem goodBeat_any (t : Int × Int × Int) (w : World) : Calls Try.prog 148 #[.agg #[.int .i64 t.1, .int .i64 t.2.1, .int .i64 t.2.2]] w fun e w' => e = .returned (.bool (B (beatP t))) ∧ Below w.heap.size w w' := by
  obtain ⟨a, b, c⟩ := t
  show Calls _ _ #[.agg #[.int .i64 a, .int .i64 b, .int .i64 c]] _ fun e w' => e = .returned (.bool (B (inB a 0 1000000 ∧ inB b 1 2000 ∧ inB c 0 2000))) ∧ _
  by_cases h_0 : inB a 0 1000000
  rotate_left
  · have H := Lib.hid h_0
    have e_0 := B_f h_0
    clear h_0
    go_enter Try.func148, Try.ntmps148
    go_wp2_with (go_at_call 147; refine (within_any _ _ _ _).mono ?_; rintro e w' ⟨rfl, rfl⟩)
    go_ret
    exact ⟨ret_f (fun x => H.out x.1), (Below.refl _ _).alloc (Nat.le_refl _) _⟩
  have H_0 := Lib.hid h_0
  have e_0 := B_t h_0
  clear h_0
  by_cases h_1 : inB b 1 2000
  rotate_left
  · have H := Lib.hid h_1
    have e_1 := B_f h_1
    clear h_1
    go_enter Try.func148, Try.ntmps148
    go_wp2_with (go_at_call 147; refine (within_any _ _ _ _).mono ?_; rintro e w' ⟨rfl, rfl⟩)
    go_ret
    exact ⟨ret_f (fun x => H.out x.2.1), (Below.refl _ _).alloc (Nat.le_refl _) _⟩
  have H_1 := Lib.hid h_1
  have e_1 := B_t h_1
  clear h_1
  by_cases h_2 : inB c 0 2000
  rotate_left
  · have H := Lib.hid h_2
    have e_2 := B_f h_2
    clear h_2
    go_enter Try.func148, Try.ntmps148
    go_wp2_with (go_at_call 147; refine (within_any _ _ _ _).mono ?_; rintro e w' ⟨rfl, rfl⟩)
    go_ret
    exact ⟨ret_f (fun x => H.out x.2.2), (Below.refl _ _).alloc (Nat.le_refl _) _⟩
  have H_2 := Lib.hid h_2
  have e_2 := B_t h_2
  clear h_2
  go_enter Try.func148, Try.ntmps148
  go_wp2_with (go_at_call 147; refine (within_any _ _ _ _).mono ?_; rintro e w' ⟨rfl, rfl⟩)
  go_ret
  exact ⟨ret_t ⟨H_0.out, H_1.out, H_2.out⟩, (Below.refl _ _).alloc (Nat.le_refl _) _⟩

theorem l21Beat_any (t : Int × Int × Int) (w : World) : Calls Try.prog 146 #[.agg #[.int .i64 t.1, .int .i64 t.2.1, .int .i64 t.2.2]] w fun e w' => e = .returned (.bool (B (beatP t))) ∧ Below w.heap.size w w' := by
  obtain ⟨a, b, c⟩ := t
  show Calls _ _ #[.agg #[.int .i64 a, .int .i64 b, .int .i64 c]] _ fun e w' => e = .returned (.bool (B (inB a 0 1000000 ∧ inB b 1 2000 ∧ inB c 0 2000))) ∧ _
  by_cases h_0 : inB a 0 1000000
  rotate_left
  · have H := Lib.hid h_0
    have e_0 := B_f h_0
    clear h_0
    go_enter Try.func146, Try.ntmps146
    go_wp2_with (go_at_call 127; refine (l1In_any _ _ _ _).mono ?_; rintro e w' ⟨rfl, rfl⟩)
    go_ret
    exact ⟨ret_f (fun x => H.out x.1), (Below.refl _ _).alloc (Nat.le_refl _) _⟩
  have H_0 := Lib.hid h_0
  have e_0 := B_t h_0
  clear h_0
  by_cases h_1 : inB b 1 2000
  rotate_left
  · have H := Lib.hid h_1
    have e_1 := B_f h_1
    clear h_1
    go_enter Try.func146, Try.ntmps146
    go_wp2_with (go_at_call 127; refine (l1In_any _ _ _ _).mono ?_; rintro e w' ⟨rfl, rfl⟩)
    go_ret
    exact ⟨ret_f (fun x => H.out x.2.1), (Below.refl _ _).alloc (Nat.le_refl _) _⟩
  have H_1 := Lib.hid h_1
  have e_1 := B_t h_1
  clear h_1
  by_cases h_2 : inB c 0 2000
  rotate_left
  · have H := Lib.hid h_2
    have e_2 := B_f h_2
    clear h_2
    go_enter Try.func146, Try.ntmps146
    go_wp2_with (go_at_call 127; refine (l1In_any _ _ _ _).mono ?_; rintro e w' ⟨rfl, rfl⟩)
    go_ret
    exact ⟨ret_f (fun x => H.out x.2.2), (Below.refl _ _).alloc (Nat.le_refl _) _⟩
  have H_2 := Lib.hid h_2
  have e_2 := B_t h_2
  clear h_2
  go_enter Try.func146, Try.ntmps146
  go_wp2_with (go_at_call 127; refine (l1In_any _ _ _ _).mono ?_; rintro e w' ⟨rfl, rfl⟩)
  go_ret
  exact ⟨ret_t ⟨H_0.out, H_1.out, H_2.out⟩, (Below.refl _ _).alloc (Nat.le_refl _) _⟩

/-- What is best among the first k handstroke gaps. -/
noncomputable def beatF (n low high : Int) (l : List Blw) : Nat → (Int × Int × Int) × Int
  | 0 => ((0, 0, 0), -1)
  | k + 1 => if (beatF n low high l k).2 < 0 ∨ (gapF n (50 * k) l low (high - low + 1).toNat).2.2 < (beatF n low high l k).2 then (((gapF n (50 * k) l low (high - low + 1).toNat).1, (gapF n (50 * k) l low (high - low + 1).toNat).2.1, 50 * (k : Int)), (gapF n (50 * k) l low (high - low + 1).toNat).2.2) else beatF n low high l k
def fitBP (n : Int) (l : List Blw) (low high most : Int) : Prop := blowsP n l ∧ 0 < l.length ∧ rangeP low high ∧ inB most 0 40
theorem fitBP_at {n low high most : Int} {l : List Blw} (h : fitBP n l low high most) {k : Nat} (hk : (k : Int) ≤ most) : fitGP n l low high (50 * k) := by
  obtain ⟨a, b, c, ⟨d1, d2⟩⟩ := h
  exact ⟨a, b, c, ⟨by omega, by omega⟩⟩
theorem beatF_bd {n low high most : Int} {l : List Blw} (h : fitBP n l low high most) : ∀ k : Nat, (k : Int) ≤ most + 1 → -1 ≤ (beatF n low high l k).2 ∧ (beatF n low high l k).2 ≤ 12000000000
  | 0, _ => by simp [beatF]
  | k + 1, hk => by
    have ih := beatF_bd h k (by omega)
    have hg := fitBP_at h (k := k) (by omega)
    have hb := gapF_bd hg (high - low + 1).toNat (by have := hg.2.2.1.2.1; omega)
    simp only [beatF]
    split
    · simp only; omega
    · exact ih
theorem fitGP_fit0 {n low high most : Int} {l : List Blw} (h : fitBP n l low high most) : fitP n l low 0 := by
  have := fitGP_at (fitBP_at h (k := 0) (by have := h.2.2.2.1; omega)) (Int.le_refl _) h.2.2.1.2.1
  simpa using this
/-- A beat's cells. -/
def bt (t : Int × Int × Int) : Nat → Value := fun i => match i with
  | 0 => .int .i64 t.1
  | 1 => .int .i64 t.2.1
  | _ => .int .i64 t.2.2
theorem bt_set {w : World} {g : Nat} {t : Int × Int × Int} (h : Cells w g 3 (bt t)) (a b c : Int) : Cells (((w.setCell ⟨g, 0, none⟩ (.int .i64 a)).setCell ⟨g, 1, none⟩ (.int .i64 b)).setCell ⟨g, 2, none⟩ (.int .i64 c)) g 3 (bt (a, b, c)) :=
  (((h.set (i := 0) (by omega) _).set (i := 1) (by omega) _).set (i := 2) (by omega) _).congr fun i hi => by
    rcases (show i = 0 ∨ i = 1 ∨ i = 2 by omega) with rfl | rfl | rfl <;> rfl
theorem bt_new (w : World) (T : TypeId) : Cells (w.alloc (.cells #[.int .i64 0, .int .i64 0, .int .i64 0] T)) w.heap.size 3 (bt (0, 0, 0)) :=
  Cells.new _ _ _ 3 _ (fun i hi => by rcases (show i = 0 ∨ i = 1 ∨ i = 2 by omega) with rfl | rfl | rfl <;> rfl)















set_option maxHeartbeats 3200000 in
theorem iFitBeat_y (n low high most : Int) (l : List Blw) (A : Option Addr) (c : Nat) (w : World) (h : RdL w w.heap.size A 3 Blw.enc l) (hl : l.length ≤ 1048576) (hc : l.length ≤ c) (hp : fitBP n l low high most) (hbt : ∀ W, Calls Try.prog 148 #[.agg #[.int .i64 (beatF n low high l (most + 1).toNat).1.1, .int .i64 (beatF n low high l (most + 1).toNat).1.2.1, .int .i64 (beatF n low high l (most + 1).toNat).1.2.2]] W fun e w' => e = .returned (.bool true) ∧ Below W.heap.size W w') :
    Calls Try.prog 69 #[.int .i64 n, .slice A l.length c, .int .i64 low, .int .i64 high, .int .i64 most] w fun e w' => e = .returned (.tuple #[.agg #[.int .i64 (beatF n low high l (most + 1).toNat).1.1, .int .i64 (beatF n low high l (most + 1).toNat).1.2.1, .int .i64 (beatF n low high l (most + 1).toNat).1.2.2], .int .i64 (beatF n low high l (most + 1).toNat).2, .bool true]) ∧ Below w.heap.size w w' := by
  have e2 := B_t (fitGP_fit0 hp)
  have HV := Lib.hid h
  have HP := Lib.hid hp
  have e1 := B_t hp.2.2.1
  have e3 := B_t hp.2.2.2
  obtain ⟨m1, m2⟩ := hp.2.2.2
  have hcall : Hid (∀ (k : Nat) (W : World), (k : Int) ≤ most → Below w.heap.size w W → Calls Try.prog 145 #[.int .i64 n, .slice A l.length c, .int .i64 low, .int .i64 high, .int .i64 (50 * (k : Int))] W fun e w' => e = .returned (.tuple #[.int .i64 (gapF n (50 * k) l low (high - low + 1).toNat).1, .int .i64 (gapF n (50 * k) l low (high - low + 1).toNat).2.1, .int .i64 (gapF n (50 * k) l low (high - low + 1).toNat).2.2]) ∧ Below W.heap.size W w') := Lib.hid (fun k W h1 hb =>
    fitGap_any n low high (50 * k) l A c W ((h.below hb (Nat.le_refl _)).more hb.size) (fitBP_at hp h1))
  have hgb : Hid (∀ k : Nat, (k : Int) ≤ most → -1 ≤ (gapF n (50 * k) l low (high - low + 1).toNat).2.2 ∧ (gapF n (50 * k) l low (high - low + 1).toNat).2.2 ≤ 12000000000) := Lib.hid (fun k hk => by
    have hg := fitBP_at hp hk
    have hb := gapF_bd hg (high - low + 1).toNat (by have := hg.2.2.1.2.1; omega)
    omega)
  have hfb := Lib.hid (beatF_bd hp)
  have hgs : Hid (∀ k : Nat, beatF n low high l (k + 1) = if (beatF n low high l k).2 < 0 ∨ (gapF n (50 * k) l low (high - low + 1).toNat).2.2 < (beatF n low high l k).2 then (((gapF n (50 * k) l low (high - low + 1).toNat).1, (gapF n (50 * k) l low (high - low + 1).toNat).2.1, 50 * (k : Int)), (gapF n (50 * k) l low (high - low + 1).toNat).2.2) else beatF n low high l k) := Lib.hid (fun k => rfl)
  have hg0 : Hid (beatF n low high l 0 = ((0, 0, 0), -1)) := Lib.hid rfl
  generalize beatF n low high l = G at hfb hgs hg0 hbt ⊢
  have hb0 : Hid (Below w.heap.size w (w.alloc (.cells #[.int .i64 0, .int .i64 0, .int .i64 0] 94))) := Lib.hid ((Below.refl _ _).alloc (Nat.le_refl _) _)
  have HC0 := Lib.hid (bt_new w 94)
  clear h hp
  go_enter Try.func69, Try.ntmps69
  go_wp2_with (first | (go_at_call 144; refine (goodRange_any _ _ _).mono ?_; rintro e w' ⟨rfl, rfl⟩) | (go_at_call 136; refine (goodFit_any n low 0 l A c _ ((HV.out.below hb0.out (Nat.le_refl _)).more hb0.out.size) hl hc).mono ?_; rintro e w1 ⟨rfl, hb1⟩; have HC1 := Lib.hid (HC0.out.later hb1); have HB1 : Hid (Below w.heap.size w w1) := Lib.hid (hb0.out.trans (hb1.mono hb0.out.size)); clear hb1; have p_0 := HC1.out.cell (i := 0) (by omega); have p_1 := HC1.out.cell (i := 1) (by omega); have p_2 := HC1.out.cell (i := 2) (by omega); have pf0 := HC1.out.free (i := 0) (by omega); have pf1 := HC1.out.free (i := 1) (by omega); have pf2 := HC1.out.free (i := 2) (by omega); simp only [bt] at p_0 p_1 p_2) | (go_at_call 147; refine (within_any _ _ _ _).mono ?_; rintro e w' ⟨rfl, rfl⟩))
  clear p_0 p_1 p_2 pf0 pf1 pf2
  have HC3 : Hid (Cells (w1.alloc (.cells #[.int .i64 0, .int .i64 0, .int .i64 0] 94)) w1.heap.size 3 (bt (0, 0, 0))) := Lib.hid (bt_new w1 94)
  have HZ3 : Hid (Cells (w1.alloc (.cells #[.int .i64 0, .int .i64 0, .int .i64 0] 94)) w.heap.size 3 (bt (0, 0, 0))) := Lib.hid (HC1.out.later ((Below.refl _ _).alloc (Nat.le_refl _) _))
  have hw1 : w.heap.size < w1.heap.size := HC1.out.lt
  have HB3 : Hid (Below w.heap.size w (w1.alloc (.cells #[.int .i64 0, .int .i64 0, .int .i64 0] 94))) := Lib.hid (HB1.out.alloc (Nat.le_of_lt hw1) _)
  generalize (w1.alloc (.cells #[.int .i64 0, .int .i64 0, .int .i64 0] 94)) = w3 at *
  generalize w1.heap.size = g3 at *
  go_loopw [14, 15] (fun v i wr => ∃ k : Nat, (k : Int) ≤ most + 1 ∧ i = .int .i64 (50 * (k : Int)) ∧ v = .int .i64 (G k).2 ∧ Hid (Cells wr g3 3 (bt (G k).1)) ∧ Hid (Cells wr w.heap.size 3 (bt (0, 0, 0))) ∧ Hid (Below w.heap.size w wr)) (fun _ i _ => (2060 - intOf i).toNat)
  case atStart => exact ⟨0, by omega, by simp, by rw [hg0.out], Lib.hid (by rw [hg0.out]; exact HC3.out), HZ3, HB3⟩
  case round =>
    obtain ⟨k, hk, rfl, rfl, hcg, hcz, hbl⟩ := hrel
    have hgz := hbl.out.size
    have hgk := hfb.out k hk
    have hst := hgs.out k
    obtain ⟨t0, ht0⟩ : ∃ s, Hid ((G k).1 = s) := ⟨_, Lib.hid rfl⟩
    obtain ⟨b0, hb0'⟩ : ∃ s, Hid ((G k).2 = s) := ⟨_, Lib.hid rfl⟩
    rw [hb0'.out] at hgk hst
    rw [ht0.out] at hcg
    rw [hb0'.out]
    obtain ⟨a1, a2⟩ := hgk
    have Hst := Lib.hid hst
    clear hst
    by_cases hlt : (k : Int) ≤ most
    · have hc1 := hcall.out k wr hlt hbl.out
      obtain ⟨f1, f2⟩ := hgb.out k hlt
      generalize gapF n (50 * k) l low (high - low + 1).toNat = r at hc1 Hst f1 f2
      obtain ⟨rs, rg, rv⟩ := r
      simp only at hc1 f1 f2
      have Hc1 := Lib.hid hc1
      clear hc1
      by_cases c1 : b0 < 0 ∨ rv < b0
      · have Hst2 : Hid (G (k + 1) = ((rs, rg, 50 * (k : Int)), rv)) := Lib.hid (by rw [Hst.out, if_pos c1])
        clear Hst
        rcases c1 with c1 | c1
        all_goals
          try (have c2 : ¬ b0 < 0 := by omega)
          go_wp2_with (go_at_call 145; refine Hc1.out.mono ?_; rintro e w5 ⟨rfl, hb5⟩; have HC5 := Lib.hid (hcg.out.later hb5); have HZ5 := Lib.hid (hcz.out.later hb5); have HB5 : Hid (Below w.heap.size w w5) := Lib.hid (hbl.out.trans (hb5.mono hgz)); clear hb5; have p_0 := HC5.out.cell (i := 0) (by omega); have p_1 := HC5.out.cell (i := 1) (by omega); have p_2 := HC5.out.cell (i := 2) (by omega); have pf0 := HC5.out.free (i := 0) (by omega); have pf1 := HC5.out.free (i := 1) (by omega); have pf2 := HC5.out.free (i := 2) (by omega))
          go_roundw
          case rel => exact ⟨k + 1, by omega, by go_num, by rw [Hst2.out], Lib.hid (by rw [Hst2.out]; exact bt_set HC5.out _ _ _), Lib.hid (((HZ5.out.other (by simp; omega) _).other (by simp; omega) _).other (by simp; omega) _), Lib.hid (by repeat (first | exact HB5.out | refine Below.setCell ?_ (by first | exact Nat.le_refl _ | (simp; done) | (simp; omega)) _))⟩
          case measure => simp [intOf]; omega
      · have Hst2 : Hid (G (k + 1) = G k) := Lib.hid (by rw [Hst.out, if_neg c1])
        clear Hst
        have c2 : ¬ b0 < 0 := fun h => c1 (.inl h)
        have c3 : ¬ rv < b0 := fun h => c1 (.inr h)
        go_wp2_with (go_at_call 145; refine Hc1.out.mono ?_; rintro e w5 ⟨rfl, hb5⟩)
        go_roundw
        case rel => exact ⟨k + 1, by omega, by go_num, by rw [Hst2.out, hb0'.out], Lib.hid (by rw [Hst2.out, ht0.out]; exact hcg.out.later hb5), Lib.hid (hcz.out.later hb5), Lib.hid (hbl.out.trans (hb5.mono hgz))⟩
        case measure => simp [intOf]; omega
    · have hkk : k = (most + 1).toNat := by omega
      rw [← hkk, ht0.out] at hbt
      have Hkk := Lib.hid hkk
      obtain ⟨s0, g0, h0⟩ := t0
      have Hbt := Lib.hid hbt
      clear hbt hkk Hst
      have p_0 := hcg.out.cell (i := 0) (by omega)
      have p_1 := hcg.out.cell (i := 1) (by omega)
      have p_2 := hcg.out.cell (i := 2) (by omega)
      simp only [bt] at p_0 p_1 p_2
      go_wp2_with (go_at_call 148; refine (Hbt.out wr).mono ?_; rintro e w6 ⟨rfl, hb6⟩; have HC6 := Lib.hid (hcg.out.later hb6); have HZ6 := Lib.hid (hcz.out.later hb6); have HB6 : Hid (Below w.heap.size w w6) := Lib.hid (hbl.out.trans (hb6.mono hgz)); clear hb6; have q_0 := HC6.out.cell (i := 0) (by omega); have q_1 := HC6.out.cell (i := 1) (by omega); have q_2 := HC6.out.cell (i := 2) (by omega); simp only [bt] at q_0 q_1 q_2; have z_0 := HZ6.out.cell (i := 0) (by omega); have z_1 := HZ6.out.cell (i := 1) (by omega); have z_2 := HZ6.out.cell (i := 2) (by omega); have zf0 := HZ6.out.free (i := 0) (by omega); have zf1 := HZ6.out.free (i := 1) (by omega); have zf2 := HZ6.out.free (i := 2) (by omega))
      refine bodyPost_ret (v := .tuple #[.agg #[.int .i64 s0, .int .i64 g0, .int .i64 h0], .int .i64 b0, .bool true]) (by simp [results, Try.results69, go_sem, z_0, z_1, z_2, zf0, zf1, zf2]) rfl ⟨by first | rfl | rw [← Hkk.out, ht0.out, hb0'.out], ?_⟩
      repeat (first | exact HB6.out | refine Below.setCell ?_ (by first | exact Nat.le_refl _ | (simp; done) | (simp; omega)) _)
set_option maxHeartbeats 3200000 in
theorem iFitBeat_z (n low high most : Int) (l : List Blw) (A : Option Addr) (c : Nat) (w : World) (h : RdL w w.heap.size A 3 Blw.enc l) (hl : l.length ≤ 1048576) (hc : l.length ≤ c) (hp : fitBP n l low high most) (hbt : ∀ W, Calls Try.prog 148 #[.agg #[.int .i64 (beatF n low high l (most + 1).toNat).1.1, .int .i64 (beatF n low high l (most + 1).toNat).1.2.1, .int .i64 (beatF n low high l (most + 1).toNat).1.2.2]] W fun e w' => e = .returned (.bool false) ∧ Below W.heap.size W w') :
    Calls Try.prog 69 #[.int .i64 n, .slice A l.length c, .int .i64 low, .int .i64 high, .int .i64 most] w fun e w' => e = .returned (.tuple #[.agg #[.int .i64 0, .int .i64 0, .int .i64 0], .int .i64 0, .bool false]) ∧ Below w.heap.size w w' := by
  have e2 := B_t (fitGP_fit0 hp)
  have HV := Lib.hid h
  have HP := Lib.hid hp
  have e1 := B_t hp.2.2.1
  have e3 := B_t hp.2.2.2
  obtain ⟨m1, m2⟩ := hp.2.2.2
  have hcall : Hid (∀ (k : Nat) (W : World), (k : Int) ≤ most → Below w.heap.size w W → Calls Try.prog 145 #[.int .i64 n, .slice A l.length c, .int .i64 low, .int .i64 high, .int .i64 (50 * (k : Int))] W fun e w' => e = .returned (.tuple #[.int .i64 (gapF n (50 * k) l low (high - low + 1).toNat).1, .int .i64 (gapF n (50 * k) l low (high - low + 1).toNat).2.1, .int .i64 (gapF n (50 * k) l low (high - low + 1).toNat).2.2]) ∧ Below W.heap.size W w') := Lib.hid (fun k W h1 hb =>
    fitGap_any n low high (50 * k) l A c W ((h.below hb (Nat.le_refl _)).more hb.size) (fitBP_at hp h1))
  have hgb : Hid (∀ k : Nat, (k : Int) ≤ most → -1 ≤ (gapF n (50 * k) l low (high - low + 1).toNat).2.2 ∧ (gapF n (50 * k) l low (high - low + 1).toNat).2.2 ≤ 12000000000) := Lib.hid (fun k hk => by
    have hg := fitBP_at hp hk
    have hb := gapF_bd hg (high - low + 1).toNat (by have := hg.2.2.1.2.1; omega)
    omega)
  have hfb := Lib.hid (beatF_bd hp)
  have hgs : Hid (∀ k : Nat, beatF n low high l (k + 1) = if (beatF n low high l k).2 < 0 ∨ (gapF n (50 * k) l low (high - low + 1).toNat).2.2 < (beatF n low high l k).2 then (((gapF n (50 * k) l low (high - low + 1).toNat).1, (gapF n (50 * k) l low (high - low + 1).toNat).2.1, 50 * (k : Int)), (gapF n (50 * k) l low (high - low + 1).toNat).2.2) else beatF n low high l k) := Lib.hid (fun k => rfl)
  have hg0 : Hid (beatF n low high l 0 = ((0, 0, 0), -1)) := Lib.hid rfl
  generalize beatF n low high l = G at hfb hgs hg0 hbt ⊢
  have hb0 : Hid (Below w.heap.size w (w.alloc (.cells #[.int .i64 0, .int .i64 0, .int .i64 0] 94))) := Lib.hid ((Below.refl _ _).alloc (Nat.le_refl _) _)
  have HC0 := Lib.hid (bt_new w 94)
  clear h hp
  go_enter Try.func69, Try.ntmps69
  go_wp2_with (first | (go_at_call 144; refine (goodRange_any _ _ _).mono ?_; rintro e w' ⟨rfl, rfl⟩) | (go_at_call 136; refine (goodFit_any n low 0 l A c _ ((HV.out.below hb0.out (Nat.le_refl _)).more hb0.out.size) hl hc).mono ?_; rintro e w1 ⟨rfl, hb1⟩; have HC1 := Lib.hid (HC0.out.later hb1); have HB1 : Hid (Below w.heap.size w w1) := Lib.hid (hb0.out.trans (hb1.mono hb0.out.size)); clear hb1; have p_0 := HC1.out.cell (i := 0) (by omega); have p_1 := HC1.out.cell (i := 1) (by omega); have p_2 := HC1.out.cell (i := 2) (by omega); have pf0 := HC1.out.free (i := 0) (by omega); have pf1 := HC1.out.free (i := 1) (by omega); have pf2 := HC1.out.free (i := 2) (by omega); simp only [bt] at p_0 p_1 p_2) | (go_at_call 147; refine (within_any _ _ _ _).mono ?_; rintro e w' ⟨rfl, rfl⟩))
  clear p_0 p_1 p_2 pf0 pf1 pf2
  have HC3 : Hid (Cells (w1.alloc (.cells #[.int .i64 0, .int .i64 0, .int .i64 0] 94)) w1.heap.size 3 (bt (0, 0, 0))) := Lib.hid (bt_new w1 94)
  have HZ3 : Hid (Cells (w1.alloc (.cells #[.int .i64 0, .int .i64 0, .int .i64 0] 94)) w.heap.size 3 (bt (0, 0, 0))) := Lib.hid (HC1.out.later ((Below.refl _ _).alloc (Nat.le_refl _) _))
  have hw1 : w.heap.size < w1.heap.size := HC1.out.lt
  have HB3 : Hid (Below w.heap.size w (w1.alloc (.cells #[.int .i64 0, .int .i64 0, .int .i64 0] 94))) := Lib.hid (HB1.out.alloc (Nat.le_of_lt hw1) _)
  generalize (w1.alloc (.cells #[.int .i64 0, .int .i64 0, .int .i64 0] 94)) = w3 at *
  generalize w1.heap.size = g3 at *
  go_loopw [14, 15] (fun v i wr => ∃ k : Nat, (k : Int) ≤ most + 1 ∧ i = .int .i64 (50 * (k : Int)) ∧ v = .int .i64 (G k).2 ∧ Hid (Cells wr g3 3 (bt (G k).1)) ∧ Hid (Cells wr w.heap.size 3 (bt (0, 0, 0))) ∧ Hid (Below w.heap.size w wr)) (fun _ i _ => (2060 - intOf i).toNat)
  case atStart => exact ⟨0, by omega, by simp, by rw [hg0.out], Lib.hid (by rw [hg0.out]; exact HC3.out), HZ3, HB3⟩
  case round =>
    obtain ⟨k, hk, rfl, rfl, hcg, hcz, hbl⟩ := hrel
    have hgz := hbl.out.size
    have hgk := hfb.out k hk
    have hst := hgs.out k
    obtain ⟨t0, ht0⟩ : ∃ s, Hid ((G k).1 = s) := ⟨_, Lib.hid rfl⟩
    obtain ⟨b0, hb0'⟩ : ∃ s, Hid ((G k).2 = s) := ⟨_, Lib.hid rfl⟩
    rw [hb0'.out] at hgk hst
    rw [ht0.out] at hcg
    rw [hb0'.out]
    obtain ⟨a1, a2⟩ := hgk
    have Hst := Lib.hid hst
    clear hst
    by_cases hlt : (k : Int) ≤ most
    · have hc1 := hcall.out k wr hlt hbl.out
      obtain ⟨f1, f2⟩ := hgb.out k hlt
      generalize gapF n (50 * k) l low (high - low + 1).toNat = r at hc1 Hst f1 f2
      obtain ⟨rs, rg, rv⟩ := r
      simp only at hc1 f1 f2
      have Hc1 := Lib.hid hc1
      clear hc1
      by_cases c1 : b0 < 0 ∨ rv < b0
      · have Hst2 : Hid (G (k + 1) = ((rs, rg, 50 * (k : Int)), rv)) := Lib.hid (by rw [Hst.out, if_pos c1])
        clear Hst
        rcases c1 with c1 | c1
        all_goals
          try (have c2 : ¬ b0 < 0 := by omega)
          go_wp2_with (go_at_call 145; refine Hc1.out.mono ?_; rintro e w5 ⟨rfl, hb5⟩; have HC5 := Lib.hid (hcg.out.later hb5); have HZ5 := Lib.hid (hcz.out.later hb5); have HB5 : Hid (Below w.heap.size w w5) := Lib.hid (hbl.out.trans (hb5.mono hgz)); clear hb5; have p_0 := HC5.out.cell (i := 0) (by omega); have p_1 := HC5.out.cell (i := 1) (by omega); have p_2 := HC5.out.cell (i := 2) (by omega); have pf0 := HC5.out.free (i := 0) (by omega); have pf1 := HC5.out.free (i := 1) (by omega); have pf2 := HC5.out.free (i := 2) (by omega))
          go_roundw
          case rel => exact ⟨k + 1, by omega, by go_num, by rw [Hst2.out], Lib.hid (by rw [Hst2.out]; exact bt_set HC5.out _ _ _), Lib.hid (((HZ5.out.other (by simp; omega) _).other (by simp; omega) _).other (by simp; omega) _), Lib.hid (by repeat (first | exact HB5.out | refine Below.setCell ?_ (by first | exact Nat.le_refl _ | (simp; done) | (simp; omega)) _))⟩
          case measure => simp [intOf]; omega
      · have Hst2 : Hid (G (k + 1) = G k) := Lib.hid (by rw [Hst.out, if_neg c1])
        clear Hst
        have c2 : ¬ b0 < 0 := fun h => c1 (.inl h)
        have c3 : ¬ rv < b0 := fun h => c1 (.inr h)
        go_wp2_with (go_at_call 145; refine Hc1.out.mono ?_; rintro e w5 ⟨rfl, hb5⟩)
        go_roundw
        case rel => exact ⟨k + 1, by omega, by go_num, by rw [Hst2.out, hb0'.out], Lib.hid (by rw [Hst2.out, ht0.out]; exact hcg.out.later hb5), Lib.hid (hcz.out.later hb5), Lib.hid (hbl.out.trans (hb5.mono hgz))⟩
        case measure => simp [intOf]; omega
    · have hkk : k = (most + 1).toNat := by omega
      rw [← hkk, ht0.out] at hbt
      have Hkk := Lib.hid hkk
      obtain ⟨s0, g0, h0⟩ := t0
      have Hbt := Lib.hid hbt
      clear hbt hkk Hst
      have p_0 := hcg.out.cell (i := 0) (by omega)
      have p_1 := hcg.out.cell (i := 1) (by omega)
      have p_2 := hcg.out.cell (i := 2) (by omega)
      simp only [bt] at p_0 p_1 p_2
      go_wp2_with (go_at_call 148; refine (Hbt.out wr).mono ?_; rintro e w6 ⟨rfl, hb6⟩; have HC6 := Lib.hid (hcg.out.later hb6); have HZ6 := Lib.hid (hcz.out.later hb6); have HB6 : Hid (Below w.heap.size w w6) := Lib.hid (hbl.out.trans (hb6.mono hgz)); clear hb6; have q_0 := HC6.out.cell (i := 0) (by omega); have q_1 := HC6.out.cell (i := 1) (by omega); have q_2 := HC6.out.cell (i := 2) (by omega); simp only [bt] at q_0 q_1 q_2; have z_0 := HZ6.out.cell (i := 0) (by omega); have z_1 := HZ6.out.cell (i := 1) (by omega); have z_2 := HZ6.out.cell (i := 2) (by omega); have zf0 := HZ6.out.free (i := 0) (by omega); have zf1 := HZ6.out.free (i := 1) (by omega); have zf2 := HZ6.out.free (i := 2) (by omega))
      refine bodyPost_ret (v := .tuple #[.agg #[.int .i64 0, .int .i64 0, .int .i64 0], .int .i64 0, .bool false]) (by simp [results, Try.results69, go_sem, z_0, z_1, z_2, zf0, zf1, zf2]) rfl ⟨by first | rfl | rw [← Hkk.out, ht0.out, hb0'.out], ?_⟩
      repeat (first | exact HB6.out | refine Below.setCell ?_ (by first | exact Nat.le_refl _ | (simp; done) | (simp; omega)) _)

set_option maxHeartbeats 800000 in
theorem iFitBeat_f (n low high most : Int) (l : List Blw) (A : Option Addr) (c : Nat) (w : World) (h : RdL w w.heap.size A 3 Blw.enc l) (hl : l.length ≤ 1048576) (hc : l.length ≤ c) (hp : ¬ fitBP n l low high most) :
    Calls Try.prog 69 #[.int .i64 n, .slice A l.length c, .int .i64 low, .int .i64 high, .int .i64 most] w fun e w' => e = .returned (.tuple #[.agg #[.int .i64 0, .int .i64 0, .int .i64 0], .int .i64 0, .bool false]) ∧ Below w.heap.size w w' := by
  have HV := Lib.hid h
  have hb0 : Hid (Below w.heap.size w (w.alloc (.cells #[.int .i64 0, .int .i64 0, .int .i64 0] 94))) := Lib.hid ((Below.refl _ _).alloc (Nat.le_refl _) _)
  have HC0 := Lib.hid (bt_new w 94)
  clear h
  by_cases h1 : rangeP low high
  rotate_left
  · have e1 := B_f h1
    clear hp h1
    go_enter Try.func69, Try.ntmps69
    go_wp2_with (first | (go_at_call 144; refine (goodRange_any _ _ _).mono ?_; rintro e w' ⟨rfl, rfl⟩))
    refine bodyPost_ret (v := .tuple #[.agg #[.int .i64 0, .int .i64 0, .int .i64 0], .int .i64 0, .bool false]) (by simp [results, Try.results69, go_sem ]) rfl ⟨rfl, ?_⟩
    repeat (first | exact Below.refl _ _ | exact HB1.out | refine Below.setCell ?_ (by first | exact Nat.le_refl _ | (simp; done) | (simp; omega)) _ | refine Below.alloc ?_ (by first | exact Nat.le_refl _ | (simp; done) | (simp; omega)) _)
  have e1 := B_t h1
  by_cases h2 : fitP n l low 0
  rotate_left
  · have e2 := B_f h2
    clear hp h1 h2
    go_enter Try.func69, Try.ntmps69
    go_wp2_with (first | (go_at_call 144; refine (goodRange_any _ _ _).mono ?_; rintro e w' ⟨rfl, rfl⟩) | (go_at_call 136; refine (goodFit_any n low 0 l A c _ ((HV.out.below hb0.out (Nat.le_refl _)).more hb0.out.size) hl hc).mono ?_; rintro e w1 ⟨rfl, hb1⟩; have HC1 := Lib.hid (HC0.out.later hb1); have HB1 : Hid (Below w.heap.size w w1) := Lib.hid (hb0.out.trans (hb1.mono hb0.out.size)); clear hb1; have p_0 := HC1.out.cell (i := 0) (by omega); have p_1 := HC1.out.cell (i := 1) (by omega); have p_2 := HC1.out.cell (i := 2) (by omega); have pf0 := HC1.out.free (i := 0) (by omega); have pf1 := HC1.out.free (i := 1) (by omega); have pf2 := HC1.out.free (i := 2) (by omega); simp only [bt] at p_0 p_1 p_2))
    refine bodyPost_ret (v := .tuple #[.agg #[.int .i64 0, .int .i64 0, .int .i64 0], .int .i64 0, .bool false]) (by simp [results, Try.results69, go_sem , p_0, p_1, p_2, pf0, pf1, pf2]) rfl ⟨rfl, ?_⟩
    repeat (first | exact Below.refl _ _ | exact HB1.out | refine Below.setCell ?_ (by first | exact Nat.le_refl _ | (simp; done) | (simp; omega)) _ | refine Below.alloc ?_ (by first | exact Nat.le_refl _ | (simp; done) | (simp; omega)) _)
  have e2 := B_t h2
  have e3 := B_f (fun h3 => hp ⟨h2.1, h2.2.1, h1, h3⟩)
  clear hp h1 h2
  go_enter Try.func69, Try.ntmps69
  go_wp2_with (first | (go_at_call 144; refine (goodRange_any _ _ _).mono ?_; rintro e w' ⟨rfl, rfl⟩) | (go_at_call 136; refine (goodFit_any n low 0 l A c _ ((HV.out.below hb0.out (Nat.le_refl _)).more hb0.out.size) hl hc).mono ?_; rintro e w1 ⟨rfl, hb1⟩; have HC1 := Lib.hid (HC0.out.later hb1); have HB1 : Hid (Below w.heap.size w w1) := Lib.hid (hb0.out.trans (hb1.mono hb0.out.size)); clear hb1; have p_0 := HC1.out.cell (i := 0) (by omega); have p_1 := HC1.out.cell (i := 1) (by omega); have p_2 := HC1.out.cell (i := 2) (by omega); have pf0 := HC1.out.free (i := 0) (by omega); have pf1 := HC1.out.free (i := 1) (by omega); have pf2 := HC1.out.free (i := 2) (by omega); simp only [bt] at p_0 p_1 p_2) | (go_at_call 147; refine (within_any _ _ _ _).mono ?_; rintro e w' ⟨rfl, rfl⟩))
  refine bodyPost_ret (v := .tuple #[.agg #[.int .i64 0, .int .i64 0, .int .i64 0], .int .i64 0, .bool false]) (by simp [results, Try.results69, go_sem , p_0, p_1, p_2, pf0, pf1, pf2]) rfl ⟨rfl, ?_⟩
  repeat (first | exact Below.refl _ _ | exact HB1.out | refine Below.setCell ?_ (by first | exact Nat.le_refl _ | (simp; done) | (simp; omega)) _ | refine Below.alloc ?_ (by first | exact Nat.le_refl _ | (simp; done) | (simp; omega)) _)

set_option maxHeartbeats 3200000 in
theorem sFitBeat_y (n low high most : Int) (l : List Blw) (A : Option Addr) (c : Nat) (w : World) (h : RdL w w.heap.size A 3 Blw.enc l) (hl : l.length ≤ 1048576) (hc : l.length ≤ c) (hp : fitBP n l low high most) (hbt : ∀ W, Calls Try.prog 146 #[.agg #[.int .i64 (beatF n low high l (most + 1).toNat).1.1, .int .i64 (beatF n low high l (most + 1).toNat).1.2.1, .int .i64 (beatF n low high l (most + 1).toNat).1.2.2]] W fun e w' => e = .returned (.bool true) ∧ Below W.heap.size W w') :
    Calls Try.prog 68 #[.int .i64 n, .slice A l.length c, .int .i64 low, .int .i64 high, .int .i64 most] w fun e w' => e = .returned (.tuple #[.agg #[.int .i64 (beatF n low high l (most + 1).toNat).1.1, .int .i64 (beatF n low high l (most + 1).toNat).1.2.1, .int .i64 (beatF n low high l (most + 1).toNat).1.2.2], .int .i64 (beatF n low high l (most + 1).toNat).2, .bool true]) ∧ Below w.heap.size w w' := by
  have e2 := B_t hp.1
  have d1 : ((l.length : Int) == 0) = false := beq_eq_false_iff_ne.2 (by have := hp.2.1; omega)
  have HV := Lib.hid h
  have HP := Lib.hid hp
  have e1 := B_t hp.2.2.1
  have e3 := B_t hp.2.2.2
  obtain ⟨m1, m2⟩ := hp.2.2.2
  have hcall : Hid (∀ (k : Nat) (W : World), (k : Int) ≤ most → Below w.heap.size w W → Calls Try.prog 143 #[.int .i64 n, .slice A l.length c, .int .i64 low, .int .i64 high, .int .i64 (50 * (k : Int))] W fun e w' => e = .returned (.tuple #[.int .i64 (gapF n (50 * k) l low (high - low + 1).toNat).1, .int .i64 (gapF n (50 * k) l low (high - low + 1).toNat).2.1, .int .i64 (gapF n (50 * k) l low (high - low + 1).toNat).2.2]) ∧ Below W.heap.size W w') := Lib.hid (fun k W h1 hb =>
    l23Gap_any n low high (50 * k) l A c W ((h.below hb (Nat.le_refl _)).more hb.size) (fitBP_at hp h1))
  have hgb : Hid (∀ k : Nat, (k : Int) ≤ most → -1 ≤ (gapF n (50 * k) l low (high - low + 1).toNat).2.2 ∧ (gapF n (50 * k) l low (high - low + 1).toNat).2.2 ≤ 12000000000) := Lib.hid (fun k hk => by
    have hg := fitBP_at hp hk
    have hb := gapF_bd hg (high - low + 1).toNat (by have := hg.2.2.1.2.1; omega)
    omega)
  have hfb := Lib.hid (beatF_bd hp)
  have hgs : Hid (∀ k : Nat, beatF n low high l (k + 1) = if (beatF n low high l k).2 < 0 ∨ (gapF n (50 * k) l low (high - low + 1).toNat).2.2 < (beatF n low high l k).2 then (((gapF n (50 * k) l low (high - low + 1).toNat).1, (gapF n (50 * k) l low (high - low + 1).toNat).2.1, 50 * (k : Int)), (gapF n (50 * k) l low (high - low + 1).toNat).2.2) else beatF n low high l k) := Lib.hid (fun k => rfl)
  have hg0 : Hid (beatF n low high l 0 = ((0, 0, 0), -1)) := Lib.hid rfl
  generalize beatF n low high l = G at hfb hgs hg0 hbt ⊢
  have hb0 : Hid (Below w.heap.size w (w.alloc (.cells #[.int .i64 0, .int .i64 0, .int .i64 0] 94))) := Lib.hid ((Below.refl _ _).alloc (Nat.le_refl _) _)
  have HC0 := Lib.hid (bt_new w 94)
  clear h hp
  go_enter Try.func68, Try.ntmps68
  go_wp2_with (first | (go_at_call 133; refine (l23Good_any n l A c _ ((HV.out.below hb0.out (Nat.le_refl _)).more hb0.out.size) hl hc).mono ?_; rintro e w1 ⟨rfl, hb1⟩; have HC1 := Lib.hid (HC0.out.later hb1); have HB1 : Hid (Below w.heap.size w w1) := Lib.hid (hb0.out.trans (hb1.mono hb0.out.size)); clear hb1; have p_0 := HC1.out.cell (i := 0) (by omega); have p_1 := HC1.out.cell (i := 1) (by omega); have p_2 := HC1.out.cell (i := 2) (by omega); have pf0 := HC1.out.free (i := 0) (by omega); have pf1 := HC1.out.free (i := 1) (by omega); have pf2 := HC1.out.free (i := 2) (by omega); simp only [bt] at p_0 p_1 p_2) | (go_at_call 142; refine (l23Range_any _ _ _).mono ?_; rintro e w' ⟨rfl, rfl⟩) | (go_at_call 127; refine (l1In_any _ _ _ _).mono ?_; rintro e w' ⟨rfl, rfl⟩))
  clear p_0 p_1 p_2 pf0 pf1 pf2
  have HC3 : Hid (Cells (w1.alloc (.cells #[.int .i64 0, .int .i64 0, .int .i64 0] 94)) w1.heap.size 3 (bt (0, 0, 0))) := Lib.hid (bt_new w1 94)
  have HZ3 : Hid (Cells (w1.alloc (.cells #[.int .i64 0, .int .i64 0, .int .i64 0] 94)) w.heap.size 3 (bt (0, 0, 0))) := Lib.hid (HC1.out.later ((Below.refl _ _).alloc (Nat.le_refl _) _))
  have hw1 : w.heap.size < w1.heap.size := HC1.out.lt
  have HB3 : Hid (Below w.heap.size w (w1.alloc (.cells #[.int .i64 0, .int .i64 0, .int .i64 0] 94))) := Lib.hid (HB1.out.alloc (Nat.le_of_lt hw1) _)
  generalize (w1.alloc (.cells #[.int .i64 0, .int .i64 0, .int .i64 0] 94)) = w3 at *
  generalize w1.heap.size = g3 at *
  go_loopw [14, 15] (fun v i wr => ∃ k : Nat, (k : Int) ≤ most + 1 ∧ i = .int .i64 ((k : Int)) ∧ v = .int .i64 (G k).2 ∧ Hid (Cells wr g3 3 (bt (G k).1)) ∧ Hid (Cells wr w.heap.size 3 (bt (0, 0, 0))) ∧ Hid (Below w.heap.size w wr)) (fun _ i _ => (60 - intOf i).toNat)
  case atStart => exact ⟨0, by omega, by simp, by rw [hg0.out], Lib.hid (by rw [hg0.out]; exact HC3.out), HZ3, HB3⟩
  case round =>
    obtain ⟨k, hk, rfl, rfl, hcg, hcz, hbl⟩ := hrel
    have hgz := hbl.out.size
    have hgk := hfb.out k hk
    have hst := hgs.out k
    obtain ⟨t0, ht0⟩ : ∃ s, Hid ((G k).1 = s) := ⟨_, Lib.hid rfl⟩
    obtain ⟨b0, hb0'⟩ : ∃ s, Hid ((G k).2 = s) := ⟨_, Lib.hid rfl⟩
    rw [hb0'.out] at hgk hst
    rw [ht0.out] at hcg
    rw [hb0'.out]
    obtain ⟨a1, a2⟩ := hgk
    have Hst := Lib.hid hst
    clear hst
    by_cases hlt : (k : Int) ≤ most
    · have hc1 := hcall.out k wr hlt hbl.out
      obtain ⟨f1, f2⟩ := hgb.out k hlt
      generalize gapF n (50 * k) l low (high - low + 1).toNat = r at hc1 Hst f1 f2
      obtain ⟨rs, rg, rv⟩ := r
      simp only at hc1 f1 f2
      have Hc1 := Lib.hid hc1
      clear hc1
      by_cases c1 : b0 < 0 ∨ rv < b0
      · have Hst2 : Hid (G (k + 1) = ((rs, rg, 50 * (k : Int)), rv)) := Lib.hid (by rw [Hst.out, if_pos c1])
        clear Hst
        rcases c1 with c1 | c1
        all_goals
          try (have c2 : ¬ b0 < 0 := by omega)
          go_wp2_with (go_at_call 143; refine Hc1.out.mono ?_; rintro e w5 ⟨rfl, hb5⟩; have HC5 := Lib.hid (hcg.out.later hb5); have HZ5 := Lib.hid (hcz.out.later hb5); have HB5 : Hid (Below w.heap.size w w5) := Lib.hid (hbl.out.trans (hb5.mono hgz)); clear hb5; have p_0 := HC5.out.cell (i := 0) (by omega); have p_1 := HC5.out.cell (i := 1) (by omega); have p_2 := HC5.out.cell (i := 2) (by omega); have pf0 := HC5.out.free (i := 0) (by omega); have pf1 := HC5.out.free (i := 1) (by omega); have pf2 := HC5.out.free (i := 2) (by omega))
          go_roundw
          case rel => exact ⟨k + 1, by omega, by go_num, by rw [Hst2.out], Lib.hid (by rw [Hst2.out]; exact bt_set HC5.out _ _ _), Lib.hid (((HZ5.out.other (by simp; omega) _).other (by simp; omega) _).other (by simp; omega) _), Lib.hid (by repeat (first | exact HB5.out | refine Below.setCell ?_ (by first | exact Nat.le_refl _ | (simp; done) | (simp; omega)) _))⟩
          case measure => simp [intOf]; omega
      · have Hst2 : Hid (G (k + 1) = G k) := Lib.hid (by rw [Hst.out, if_neg c1])
        clear Hst
        have c2 : ¬ b0 < 0 := fun h => c1 (.inl h)
        have c3 : ¬ rv < b0 := fun h => c1 (.inr h)
        go_wp2_with (go_at_call 143; refine Hc1.out.mono ?_; rintro e w5 ⟨rfl, hb5⟩)
        go_roundw
        case rel => exact ⟨k + 1, by omega, by go_num, by rw [Hst2.out, hb0'.out], Lib.hid (by rw [Hst2.out, ht0.out]; exact hcg.out.later hb5), Lib.hid (hcz.out.later hb5), Lib.hid (hbl.out.trans (hb5.mono hgz))⟩
        case measure => simp [intOf]; omega
    · have hkk : k = (most + 1).toNat := by omega
      rw [← hkk, ht0.out] at hbt
      have Hkk := Lib.hid hkk
      obtain ⟨s0, g0, h0⟩ := t0
      have Hbt := Lib.hid hbt
      clear hbt hkk Hst
      have p_0 := hcg.out.cell (i := 0) (by omega)
      have p_1 := hcg.out.cell (i := 1) (by omega)
      have p_2 := hcg.out.cell (i := 2) (by omega)
      simp only [bt] at p_0 p_1 p_2
      go_wp2_with (go_at_call 146; refine (Hbt.out wr).mono ?_; rintro e w6 ⟨rfl, hb6⟩; have HC6 := Lib.hid (hcg.out.later hb6); have HZ6 := Lib.hid (hcz.out.later hb6); have HB6 : Hid (Below w.heap.size w w6) := Lib.hid (hbl.out.trans (hb6.mono hgz)); clear hb6; have q_0 := HC6.out.cell (i := 0) (by omega); have q_1 := HC6.out.cell (i := 1) (by omega); have q_2 := HC6.out.cell (i := 2) (by omega); simp only [bt] at q_0 q_1 q_2; have z_0 := HZ6.out.cell (i := 0) (by omega); have z_1 := HZ6.out.cell (i := 1) (by omega); have z_2 := HZ6.out.cell (i := 2) (by omega); have zf0 := HZ6.out.free (i := 0) (by omega); have zf1 := HZ6.out.free (i := 1) (by omega); have zf2 := HZ6.out.free (i := 2) (by omega))
      refine bodyPost_ret (v := .tuple #[.agg #[.int .i64 s0, .int .i64 g0, .int .i64 h0], .int .i64 b0, .bool true]) (by simp [results, Try.results68, go_sem, z_0, z_1, z_2, zf0, zf1, zf2]) rfl ⟨by first | rfl | rw [← Hkk.out, ht0.out, hb0'.out], ?_⟩
      repeat (first | exact HB6.out | refine Below.setCell ?_ (by first | exact Nat.le_refl _ | (simp; done) | (simp; omega)) _)
set_option maxHeartbeats 3200000 in
theorem sFitBeat_z (n low high most : Int) (l : List Blw) (A : Option Addr) (c : Nat) (w : World) (h : RdL w w.heap.size A 3 Blw.enc l) (hl : l.length ≤ 1048576) (hc : l.length ≤ c) (hp : fitBP n l low high most) (hbt : ∀ W, Calls Try.prog 146 #[.agg #[.int .i64 (beatF n low high l (most + 1).toNat).1.1, .int .i64 (beatF n low high l (most + 1).toNat).1.2.1, .int .i64 (beatF n low high l (most + 1).toNat).1.2.2]] W fun e w' => e = .returned (.bool false) ∧ Below W.heap.size W w') :
    Calls Try.prog 68 #[.int .i64 n, .slice A l.length c, .int .i64 low, .int .i64 high, .int .i64 most] w fun e w' => e = .returned (.tuple #[.agg #[.int .i64 0, .int .i64 0, .int .i64 0], .int .i64 0, .bool false]) ∧ Below w.heap.size w w' := by
  have e2 := B_t hp.1
  have d1 : ((l.length : Int) == 0) = false := beq_eq_false_iff_ne.2 (by have := hp.2.1; omega)
  have HV := Lib.hid h
  have HP := Lib.hid hp
  have e1 := B_t hp.2.2.1
  have e3 := B_t hp.2.2.2
  obtain ⟨m1, m2⟩ := hp.2.2.2
  have hcall : Hid (∀ (k : Nat) (W : World), (k : Int) ≤ most → Below w.heap.size w W → Calls Try.prog 143 #[.int .i64 n, .slice A l.length c, .int .i64 low, .int .i64 high, .int .i64 (50 * (k : Int))] W fun e w' => e = .returned (.tuple #[.int .i64 (gapF n (50 * k) l low (high - low + 1).toNat).1, .int .i64 (gapF n (50 * k) l low (high - low + 1).toNat).2.1, .int .i64 (gapF n (50 * k) l low (high - low + 1).toNat).2.2]) ∧ Below W.heap.size W w') := Lib.hid (fun k W h1 hb =>
    l23Gap_any n low high (50 * k) l A c W ((h.below hb (Nat.le_refl _)).more hb.size) (fitBP_at hp h1))
  have hgb : Hid (∀ k : Nat, (k : Int) ≤ most → -1 ≤ (gapF n (50 * k) l low (high - low + 1).toNat).2.2 ∧ (gapF n (50 * k) l low (high - low + 1).toNat).2.2 ≤ 12000000000) := Lib.hid (fun k hk => by
    have hg := fitBP_at hp hk
    have hb := gapF_bd hg (high - low + 1).toNat (by have := hg.2.2.1.2.1; omega)
    omega)
  have hfb := Lib.hid (beatF_bd hp)
  have hgs : Hid (∀ k : Nat, beatF n low high l (k + 1) = if (beatF n low high l k).2 < 0 ∨ (gapF n (50 * k) l low (high - low + 1).toNat).2.2 < (beatF n low high l k).2 then (((gapF n (50 * k) l low (high - low + 1).toNat).1, (gapF n (50 * k) l low (high - low + 1).toNat).2.1, 50 * (k : Int)), (gapF n (50 * k) l low (high - low + 1).toNat).2.2) else beatF n low high l k) := Lib.hid (fun k => rfl)
  have hg0 : Hid (beatF n low high l 0 = ((0, 0, 0), -1)) := Lib.hid rfl
  generalize beatF n low high l = G at hfb hgs hg0 hbt ⊢
  have hb0 : Hid (Below w.heap.size w (w.alloc (.cells #[.int .i64 0, .int .i64 0, .int .i64 0] 94))) := Lib.hid ((Below.refl _ _).alloc (Nat.le_refl _) _)
  have HC0 := Lib.hid (bt_new w 94)
  clear h hp
  go_enter Try.func68, Try.ntmps68
  go_wp2_with (first | (go_at_call 133; refine (l23Good_any n l A c _ ((HV.out.below hb0.out (Nat.le_refl _)).more hb0.out.size) hl hc).mono ?_; rintro e w1 ⟨rfl, hb1⟩; have HC1 := Lib.hid (HC0.out.later hb1); have HB1 : Hid (Below w.heap.size w w1) := Lib.hid (hb0.out.trans (hb1.mono hb0.out.size)); clear hb1; have p_0 := HC1.out.cell (i := 0) (by omega); have p_1 := HC1.out.cell (i := 1) (by omega); have p_2 := HC1.out.cell (i := 2) (by omega); have pf0 := HC1.out.free (i := 0) (by omega); have pf1 := HC1.out.free (i := 1) (by omega); have pf2 := HC1.out.free (i := 2) (by omega); simp only [bt] at p_0 p_1 p_2) | (go_at_call 142; refine (l23Range_any _ _ _).mono ?_; rintro e w' ⟨rfl, rfl⟩) | (go_at_call 127; refine (l1In_any _ _ _ _).mono ?_; rintro e w' ⟨rfl, rfl⟩))
  clear p_0 p_1 p_2 pf0 pf1 pf2
  have HC3 : Hid (Cells (w1.alloc (.cells #[.int .i64 0, .int .i64 0, .int .i64 0] 94)) w1.heap.size 3 (bt (0, 0, 0))) := Lib.hid (bt_new w1 94)
  have HZ3 : Hid (Cells (w1.alloc (.cells #[.int .i64 0, .int .i64 0, .int .i64 0] 94)) w.heap.size 3 (bt (0, 0, 0))) := Lib.hid (HC1.out.later ((Below.refl _ _).alloc (Nat.le_refl _) _))
  have hw1 : w.heap.size < w1.heap.size := HC1.out.lt
  have HB3 : Hid (Below w.heap.size w (w1.alloc (.cells #[.int .i64 0, .int .i64 0, .int .i64 0] 94))) := Lib.hid (HB1.out.alloc (Nat.le_of_lt hw1) _)
  generalize (w1.alloc (.cells #[.int .i64 0, .int .i64 0, .int .i64 0] 94)) = w3 at *
  generalize w1.heap.size = g3 at *
  go_loopw [14, 15] (fun v i wr => ∃ k : Nat, (k : Int) ≤ most + 1 ∧ i = .int .i64 ((k : Int)) ∧ v = .int .i64 (G k).2 ∧ Hid (Cells wr g3 3 (bt (G k).1)) ∧ Hid (Cells wr w.heap.size 3 (bt (0, 0, 0))) ∧ Hid (Below w.heap.size w wr)) (fun _ i _ => (60 - intOf i).toNat)
  case atStart => exact ⟨0, by omega, by simp, by rw [hg0.out], Lib.hid (by rw [hg0.out]; exact HC3.out), HZ3, HB3⟩
  case round =>
    obtain ⟨k, hk, rfl, rfl, hcg, hcz, hbl⟩ := hrel
    have hgz := hbl.out.size
    have hgk := hfb.out k hk
    have hst := hgs.out k
    obtain ⟨t0, ht0⟩ : ∃ s, Hid ((G k).1 = s) := ⟨_, Lib.hid rfl⟩
    obtain ⟨b0, hb0'⟩ : ∃ s, Hid ((G k).2 = s) := ⟨_, Lib.hid rfl⟩
    rw [hb0'.out] at hgk hst
    rw [ht0.out] at hcg
    rw [hb0'.out]
    obtain ⟨a1, a2⟩ := hgk
    have Hst := Lib.hid hst
    clear hst
    by_cases hlt : (k : Int) ≤ most
    · have hc1 := hcall.out k wr hlt hbl.out
      obtain ⟨f1, f2⟩ := hgb.out k hlt
      generalize gapF n (50 * k) l low (high - low + 1).toNat = r at hc1 Hst f1 f2
      obtain ⟨rs, rg, rv⟩ := r
      simp only at hc1 f1 f2
      have Hc1 := Lib.hid hc1
      clear hc1
      by_cases c1 : b0 < 0 ∨ rv < b0
      · have Hst2 : Hid (G (k + 1) = ((rs, rg, 50 * (k : Int)), rv)) := Lib.hid (by rw [Hst.out, if_pos c1])
        clear Hst
        rcases c1 with c1 | c1
        all_goals
          try (have c2 : ¬ b0 < 0 := by omega)
          go_wp2_with (go_at_call 143; refine Hc1.out.mono ?_; rintro e w5 ⟨rfl, hb5⟩; have HC5 := Lib.hid (hcg.out.later hb5); have HZ5 := Lib.hid (hcz.out.later hb5); have HB5 : Hid (Below w.heap.size w w5) := Lib.hid (hbl.out.trans (hb5.mono hgz)); clear hb5; have p_0 := HC5.out.cell (i := 0) (by omega); have p_1 := HC5.out.cell (i := 1) (by omega); have p_2 := HC5.out.cell (i := 2) (by omega); have pf0 := HC5.out.free (i := 0) (by omega); have pf1 := HC5.out.free (i := 1) (by omega); have pf2 := HC5.out.free (i := 2) (by omega))
          go_roundw
          case rel => exact ⟨k + 1, by omega, by go_num, by rw [Hst2.out], Lib.hid (by rw [Hst2.out]; exact bt_set HC5.out _ _ _), Lib.hid (((HZ5.out.other (by simp; omega) _).other (by simp; omega) _).other (by simp; omega) _), Lib.hid (by repeat (first | exact HB5.out | refine Below.setCell ?_ (by first | exact Nat.le_refl _ | (simp; done) | (simp; omega)) _))⟩
          case measure => simp [intOf]; omega
      · have Hst2 : Hid (G (k + 1) = G k) := Lib.hid (by rw [Hst.out, if_neg c1])
        clear Hst
        have c2 : ¬ b0 < 0 := fun h => c1 (.inl h)
        have c3 : ¬ rv < b0 := fun h => c1 (.inr h)
        go_wp2_with (go_at_call 143; refine Hc1.out.mono ?_; rintro e w5 ⟨rfl, hb5⟩)
        go_roundw
        case rel => exact ⟨k + 1, by omega, by go_num, by rw [Hst2.out, hb0'.out], Lib.hid (by rw [Hst2.out, ht0.out]; exact hcg.out.later hb5), Lib.hid (hcz.out.later hb5), Lib.hid (hbl.out.trans (hb5.mono hgz))⟩
        case measure => simp [intOf]; omega
    · have hkk : k = (most + 1).toNat := by omega
      rw [← hkk, ht0.out] at hbt
      have Hkk := Lib.hid hkk
      obtain ⟨s0, g0, h0⟩ := t0
      have Hbt := Lib.hid hbt
      clear hbt hkk Hst
      have p_0 := hcg.out.cell (i := 0) (by omega)
      have p_1 := hcg.out.cell (i := 1) (by omega)
      have p_2 := hcg.out.cell (i := 2) (by omega)
      simp only [bt] at p_0 p_1 p_2
      go_wp2_with (go_at_call 146; refine (Hbt.out wr).mono ?_; rintro e w6 ⟨rfl, hb6⟩; have HC6 := Lib.hid (hcg.out.later hb6); have HZ6 := Lib.hid (hcz.out.later hb6); have HB6 : Hid (Below w.heap.size w w6) := Lib.hid (hbl.out.trans (hb6.mono hgz)); clear hb6; have q_0 := HC6.out.cell (i := 0) (by omega); have q_1 := HC6.out.cell (i := 1) (by omega); have q_2 := HC6.out.cell (i := 2) (by omega); simp only [bt] at q_0 q_1 q_2; have z_0 := HZ6.out.cell (i := 0) (by omega); have z_1 := HZ6.out.cell (i := 1) (by omega); have z_2 := HZ6.out.cell (i := 2) (by omega); have zf0 := HZ6.out.free (i := 0) (by omega); have zf1 := HZ6.out.free (i := 1) (by omega); have zf2 := HZ6.out.free (i := 2) (by omega))
      refine bodyPost_ret (v := .tuple #[.agg #[.int .i64 0, .int .i64 0, .int .i64 0], .int .i64 0, .bool false]) (by simp [results, Try.results68, go_sem, z_0, z_1, z_2, zf0, zf1, zf2]) rfl ⟨by first | rfl | rw [← Hkk.out, ht0.out, hb0'.out], ?_⟩
      repeat (first | exact HB6.out | refine Below.setCell ?_ (by first | exact Nat.le_refl _ | (simp; done) | (simp; omega)) _)
set_option maxHeartbeats 800000 in
theorem sFitBeat_f (n low high most : Int) (l : List Blw) (A : Option Addr) (c : Nat) (w : World) (h : RdL w w.heap.size A 3 Blw.enc l) (hl : l.length ≤ 1048576) (hc : l.length ≤ c) (hp : ¬ fitBP n l low high most) :
    Calls Try.prog 68 #[.int .i64 n, .slice A l.length c, .int .i64 low, .int .i64 high, .int .i64 most] w fun e w' => e = .returned (.tuple #[.agg #[.int .i64 0, .int .i64 0, .int .i64 0], .int .i64 0, .bool false]) ∧ Below w.heap.size w w' := by
  have HV := Lib.hid h
  have hb0 : Hid (Below w.heap.size w (w.alloc (.cells #[.int .i64 0, .int .i64 0, .int .i64 0] 94))) := Lib.hid ((Below.refl _ _).alloc (Nat.le_refl _) _)
  have HC0 := Lib.hid (bt_new w 94)
  clear h
  by_cases h1 : blowsP n l
  rotate_left
  · have e1 := B_f h1
    clear hp h1
    go_enter Try.func68, Try.ntmps68
    go_wp2_with (first | (go_at_call 133; refine (l23Good_any n l A c _ ((HV.out.below hb0.out (Nat.le_refl _)).more hb0.out.size) hl hc).mono ?_; rintro e w1 ⟨rfl, hb1⟩; have HC1 := Lib.hid (HC0.out.later hb1); have HB1 : Hid (Below w.heap.size w w1) := Lib.hid (hb0.out.trans (hb1.mono hb0.out.size)); clear hb1; have p_0 := HC1.out.cell (i := 0) (by omega); have p_1 := HC1.out.cell (i := 1) (by omega); have p_2 := HC1.out.cell (i := 2) (by omega); have pf0 := HC1.out.free (i := 0) (by omega); have pf1 := HC1.out.free (i := 1) (by omega); have pf2 := HC1.out.free (i := 2) (by omega); simp only [bt] at p_0 p_1 p_2))
    refine bodyPost_ret (v := .tuple #[.agg #[.int .i64 0, .int .i64 0, .int .i64 0], .int .i64 0, .bool false]) (by simp [results, Try.results68, go_sem , p_0, p_1, p_2, pf0, pf1, pf2]) rfl ⟨rfl, ?_⟩
    repeat (first | exact Below.refl _ _ | exact HB1.out | refine Below.setCell ?_ (by first | exact Nat.le_refl _ | (simp; done) | (simp; omega)) _ | refine Below.alloc ?_ (by first | exact Nat.le_refl _ | (simp; done) | (simp; omega)) _)
  have e1 := B_t h1
  by_cases h2 : 0 < l.length
  rotate_left
  · have d1 : ((l.length : Int) == 0) = true := beq_iff_eq.2 (by omega)
    clear hp h1 h2
    go_enter Try.func68, Try.ntmps68
    go_wp2_with (first | (go_at_call 133; refine (l23Good_any n l A c _ ((HV.out.below hb0.out (Nat.le_refl _)).more hb0.out.size) hl hc).mono ?_; rintro e w1 ⟨rfl, hb1⟩; have HC1 := Lib.hid (HC0.out.later hb1); have HB1 : Hid (Below w.heap.size w w1) := Lib.hid (hb0.out.trans (hb1.mono hb0.out.size)); clear hb1; have p_0 := HC1.out.cell (i := 0) (by omega); have p_1 := HC1.out.cell (i := 1) (by omega); have p_2 := HC1.out.cell (i := 2) (by omega); have pf0 := HC1.out.free (i := 0) (by omega); have pf1 := HC1.out.free (i := 1) (by omega); have pf2 := HC1.out.free (i := 2) (by omega); simp only [bt] at p_0 p_1 p_2))
    refine bodyPost_ret (v := .tuple #[.agg #[.int .i64 0, .int .i64 0, .int .i64 0], .int .i64 0, .bool false]) (by simp [results, Try.results68, go_sem , p_0, p_1, p_2, pf0, pf1, pf2]) rfl ⟨rfl, ?_⟩
    repeat (first | exact Below.refl _ _ | exact HB1.out | refine Below.setCell ?_ (by first | exact Nat.le_refl _ | (simp; done) | (simp; omega)) _ | refine Below.alloc ?_ (by first | exact Nat.le_refl _ | (simp; done) | (simp; omega)) _)
  have d1 : ((l.length : Int) == 0) = false := beq_eq_false_iff_ne.2 (by omega)
  by_cases h3 : rangeP low high
  rotate_left
  · have e2 := B_f h3
    clear hp h1 h3
    go_enter Try.func68, Try.ntmps68
    go_wp2_with (first | (go_at_call 133; refine (l23Good_any n l A c _ ((HV.out.below hb0.out (Nat.le_refl _)).more hb0.out.size) hl hc).mono ?_; rintro e w1 ⟨rfl, hb1⟩; have HC1 := Lib.hid (HC0.out.later hb1); have HB1 : Hid (Below w.heap.size w w1) := Lib.hid (hb0.out.trans (hb1.mono hb0.out.size)); clear hb1; have p_0 := HC1.out.cell (i := 0) (by omega); have p_1 := HC1.out.cell (i := 1) (by omega); have p_2 := HC1.out.cell (i := 2) (by omega); have pf0 := HC1.out.free (i := 0) (by omega); have pf1 := HC1.out.free (i := 1) (by omega); have pf2 := HC1.out.free (i := 2) (by omega); simp only [bt] at p_0 p_1 p_2) | (go_at_call 142; refine (l23Range_any _ _ _).mono ?_; rintro e w' ⟨rfl, rfl⟩))
    refine bodyPost_ret (v := .tuple #[.agg #[.int .i64 0, .int .i64 0, .int .i64 0], .int .i64 0, .bool false]) (by simp [results, Try.results68, go_sem , p_0, p_1, p_2, pf0, pf1, pf2]) rfl ⟨rfl, ?_⟩
    repeat (first | exact Below.refl _ _ | exact HB1.out | refine Below.setCell ?_ (by first | exact Nat.le_refl _ | (simp; done) | (simp; omega)) _ | refine Below.alloc ?_ (by first | exact Nat.le_refl _ | (simp; done) | (simp; omega)) _)
  have e2 := B_t h3
  have e3 := B_f (fun h4 => hp ⟨h1, h2, h3, h4⟩)
  clear hp h1 h3
  go_enter Try.func68, Try.ntmps68
  go_wp2_with (first | (go_at_call 133; refine (l23Good_any n l A c _ ((HV.out.below hb0.out (Nat.le_refl _)).more hb0.out.size) hl hc).mono ?_; rintro e w1 ⟨rfl, hb1⟩; have HC1 := Lib.hid (HC0.out.later hb1); have HB1 : Hid (Below w.heap.size w w1) := Lib.hid (hb0.out.trans (hb1.mono hb0.out.size)); clear hb1; have p_0 := HC1.out.cell (i := 0) (by omega); have p_1 := HC1.out.cell (i := 1) (by omega); have p_2 := HC1.out.cell (i := 2) (by omega); have pf0 := HC1.out.free (i := 0) (by omega); have pf1 := HC1.out.free (i := 1) (by omega); have pf2 := HC1.out.free (i := 2) (by omega); simp only [bt] at p_0 p_1 p_2) | (go_at_call 142; refine (l23Range_any _ _ _).mono ?_; rintro e w' ⟨rfl, rfl⟩) | (go_at_call 127; refine (l1In_any _ _ _ _).mono ?_; rintro e w' ⟨rfl, rfl⟩))
  refine bodyPost_ret (v := .tuple #[.agg #[.int .i64 0, .int .i64 0, .int .i64 0], .int .i64 0, .bool false]) (by simp [results, Try.results68, go_sem , p_0, p_1, p_2, pf0, pf1, pf2]) rfl ⟨rfl, ?_⟩
  repeat (first | exact Below.refl _ _ | exact HB1.out | refine Below.setCell ?_ (by first | exact Nat.le_refl _ | (simp; done) | (simp; omega)) _ | refine Below.alloc ?_ (by first | exact Nat.le_refl _ | (simp; done) | (simp; omega)) _)
theorem eqBeat_t (a b c : Int) (w : World) : Calls Try.prog 70 #[.agg #[.int .i64 a, .int .i64 b, .int .i64 c], .agg #[.int .i64 a, .int .i64 b, .int .i64 c]] w fun e w' => e = .returned (.bool true) ∧ Below w.heap.size w w' := by
  go_enter Try.func70, Try.ntmps70
  go_wp2
  go_ret
  exact ⟨rfl, by repeat (first | exact Below.refl _ _ | refine Below.alloc ?_ (by first | exact Nat.le_refl _ | (simp; done) | (simp; omega)) _)⟩




set_option maxHeartbeats 3200000 in
theorem fitBeatLaw_w (w : World) (n low high most : Int) (l : List Blw) (A : Option Addr) (c : Nat) (hr : RdL w w.heap.size A 3 Blw.enc l) (hl : l.length ≤ 1048576 → ∃ (s0 g0 h0 b0 : Int) (ok : Bool), Hid (∀ (W : World) (A' : Option Addr) (c' : Nat), RdL W W.heap.size A' 3 Blw.enc l → l.length ≤ c' → Calls Try.prog 68 #[.int .i64 n, .slice A' l.length c', .int .i64 low, .int .i64 high, .int .i64 most] W fun e w' => e = .returned (.tuple #[.agg #[.int .i64 s0, .int .i64 g0, .int .i64 h0], .int .i64 b0, .bool ok]) ∧ Below W.heap.size W w') ∧ Hid (∀ (W : World) (A' : Option Addr) (c' : Nat), RdL W W.heap.size A' 3 Blw.enc l → l.length ≤ c' → Calls Try.prog 69 #[.int .i64 n, .slice A' l.length c', .int .i64 low, .int .i64 high, .int .i64 most] W fun e w' => e = .returned (.tuple #[.agg #[.int .i64 s0, .int .i64 g0, .int .i64 h0], .int .i64 b0, .bool ok]) ∧ Below W.heap.size W w')) (hll : l.length ≤ 9223372036854775807) :
    Calls Try.prog 11 #[.int .i64 n, .slice A l.length c, .int .i64 low, .int .i64 high, .int .i64 most] w fun e w' => e = .returned (.bool true) ∧ Below w.heap.size w w' := by
  have Hr := Lib.hid hr
  have HL := Lib.hid hl
  clear hr hl
  go_enter Try.func11, Try.ntmps11
  go_wp2_with fail
  refine (szBlowS_any l A c 1048576 _ (by omega) (by omega) (by omega)).mono ?_
  rintro e w1 ⟨r1, rfl, hz, hb1⟩
  have Z := Lib.hid hz
  have HB1 := Lib.hid hb1
  clear hz hb1
  by_cases n1 : r1 < 0
  · go_wp2_with fail
    go_ret
    exact ⟨rfl, HB1.out⟩
  have z1 := Z.out.resolve_left n1
  have hl' : l.length ≤ 1048576 := by have := z1.2.2.1; omega
  clear z1
  obtain ⟨s0, g0, h0, b0, ok, hs, hi⟩ := HL.out hl'
  have t1 := HB1.out.size
  go_wp2_with fail
  refine (toBlowS_any l A c _ ((Hr.out.below HB1.out (Nat.le_refl _)).more HB1.out.size) hl').mono ?_
  rintro e w2 ⟨A2, rfl, ho2, hb2⟩
  have HO2 := Lib.hid (ho2.rd Blw_enc_len)
  have HB2 := Lib.hid (HB1.out.trans (hb2.mono t1))
  have t2 := HB2.out.size
  clear ho2 hb2
  go_wp2_with fail
  refine (hs.out _ _ _ HO2.out (Nat.le_refl _)).mono ?_
  rintro e w3 ⟨rfl, hb3⟩
  have HB3 := Lib.hid (HB2.out.trans (hb3.mono t2))
  have t3 := HB3.out.size
  clear hb3
  go_wp2_with fail
  have x_0 : ((w3.alloc (.cells #[.int .i64 s0, .int .i64 g0, .int .i64 h0] 94))).cell? ⟨w3.heap.size, 0, none⟩ = some (.int .i64 s0) := by rw [World.cell?_alloc_new]; rfl
  have x_1 : ((w3.alloc (.cells #[.int .i64 s0, .int .i64 g0, .int .i64 h0] 94))).cell? ⟨w3.heap.size, 1, none⟩ = some (.int .i64 g0) := by rw [World.cell?_alloc_new]; rfl
  have x_2 : ((w3.alloc (.cells #[.int .i64 s0, .int .i64 g0, .int .i64 h0] 94))).cell? ⟨w3.heap.size, 2, none⟩ = some (.int .i64 h0) := by rw [World.cell?_alloc_new]; rfl
  have x_b : Below w3.heap.size w3 (w3.alloc (.cells #[.int .i64 s0, .int .i64 g0, .int .i64 h0] 94)) := (Below.refl _ _).alloc (Nat.le_refl _) _
  have x_s : w3.heap.size < ((w3.alloc (.cells #[.int .i64 s0, .int .i64 g0, .int .i64 h0] 94))).heap.size := by simp
  generalize (w3.alloc (.cells #[.int .i64 s0, .int .i64 g0, .int .i64 h0] 94)) = v3 at *
  have HB4 := Lib.hid (HB3.out.trans (x_b.mono t3))
  have t4 := HB4.out.size
  clear x_b
  refine (toBlowS_any l A c _ ((Hr.out.below HB4.out (Nat.le_refl _)).more HB4.out.size) hl').mono ?_
  rintro e w5 ⟨A5, rfl, ho5, hb5⟩
  have HO5 := Lib.hid ho5
  have HB5 := Lib.hid (HB4.out.trans (hb5.mono t4))
  have t5 := HB5.out.size
  have y_0 := (hb5.cell (p := ⟨w3.heap.size, 0, none⟩) x_s).trans x_0; have y_1 := (hb5.cell (p := ⟨w3.heap.size, 1, none⟩) x_s).trans x_1; have y_2 := (hb5.cell (p := ⟨w3.heap.size, 2, none⟩) x_s).trans x_2; clear x_0 x_1 x_2
  have y_s := Nat.lt_of_lt_of_le x_s hb5.size
  clear ho5 hb5 x_s
  go_wp2_with fail
  refine (hi.out _ _ _ (HO5.out.rd Blw_enc_len) (Nat.le_refl _)).mono ?_
  rintro e w6 ⟨rfl, hb6⟩
  have HO6 := Lib.hid (HO5.out.later hb6)
  have HB6 := Lib.hid (HB5.out.trans (hb6.mono t5))
  have t6 := HB6.out.size
  have x_0 := (hb6.cell (p := ⟨w3.heap.size, 0, none⟩) y_s).trans y_0; have x_1 := (hb6.cell (p := ⟨w3.heap.size, 1, none⟩) y_s).trans y_1; have x_2 := (hb6.cell (p := ⟨w3.heap.size, 2, none⟩) y_s).trans y_2; clear y_0 y_1 y_2
  have x_s := Nat.lt_of_lt_of_le y_s hb6.size
  clear HO5 hb6 y_s
  go_wp2_with fail
  have hbx : Below w6.heap.size w6 (w6.alloc (.cells #[.int .i64 s0, .int .i64 g0, .int .i64 h0] 94)) := (Below.refl _ _).alloc (Nat.le_refl _) _
  have HO7 := Lib.hid (HO6.out.later hbx)
  have HB7 := Lib.hid (HB6.out.trans (hbx.mono t6))
  have t7 := HB7.out.size
  clear hbx HO6
  refine (eqBeat_t s0 g0 h0 _).mono ?_
  rintro e w8 ⟨rfl, hb8⟩
  have HO8 := Lib.hid (HO7.out.later hb8)
  have HB8 := Lib.hid (HB7.out.trans (hb8.mono t7))
  have t8 := HB8.out.size
  clear hb8
  go_wp2_with fail
  refine (toBlowS_any l A c _ ((Hr.out.below HB8.out (Nat.le_refl _)).more HB8.out.size) hl').mono ?_
  rintro e w9 ⟨A9, rfl, ho9, hb9⟩
  have HO9 := Lib.hid (HO8.out.later hb9)
  have HR9 := Lib.hid (ho9.rd Blw_enc_len)
  have HB9 := Lib.hid (HB8.out.trans (hb9.mono t8))
  have t9 := HB9.out.size
  clear ho9 hb9
  go_wp2_with fail
  refine (eqBlowS_t l A5 A9 l.length l.length _ (HO9.out.rd Blw_enc_len) HR9.out (by omega)).mono ?_
  rintro e w10 ⟨rfl, hb10⟩
  go_wp2_with fail
  go_ret
  exact ⟨rfl, HB9.out.trans (hb10.mono t9)⟩
theorem fitBeatLaw (w : World) (n : Int) (hn : -9223372036854775808 ≤ n ∧ n ≤ 9223372036854775807) (l : List Blw) (A : Option Addr) (c : Nat) (hr : RdL w w.heap.size A 3 Blw.enc l) (hl : l.length ≤ 9223372036854775807) (hs : ∀ x ∈ l, Blow_small 9223372036854775807 x)
    (low : Int) (_ : -9223372036854775808 ≤ low ∧ low ≤ 9223372036854775807) (high : Int) (_ : -9223372036854775808 ≤ high ∧ high ≤ 9223372036854775807) (most : Int) (_ : -9223372036854775808 ≤ most ∧ most ≤ 9223372036854775807) :
    Calls Try.prog 11 #[.int .i64 n, .slice A l.length c, .int .i64 low, .int .i64 high, .int .i64 most] w fun e w' => e = .returned (.bool true) ∧ Below w.heap.size w w' := by
  refine fitBeatLaw_w w n low high most l A c hr (fun hl' => ?_) hl
  by_cases hp : fitBP n l low high most
  · by_cases hb : beatP (beatF n low high l (most + 1).toNat).1
    · refine ⟨(beatF n low high l (most + 1).toNat).1.1, (beatF n low high l (most + 1).toNat).1.2.1, (beatF n low high l (most + 1).toNat).1.2.2, (beatF n low high l (most + 1).toNat).2, true, Lib.hid (fun W A' c' h hc => sFitBeat_y n low high most l A' c' W h hl' hc hp (fun W => by have := l21Beat_any (beatF n low high l (most + 1).toNat).1 W; rw [B_t hb] at this; exact this)), Lib.hid (fun W A' c' h hc => iFitBeat_y n low high most l A' c' W h hl' hc hp (fun W => by have := goodBeat_any (beatF n low high l (most + 1).toNat).1 W; rw [B_t hb] at this; exact this))⟩
    · refine ⟨0, 0, 0, 0, false, Lib.hid (fun W A' c' h hc => sFitBeat_z n low high most l A' c' W h hl' hc hp (fun W => by have := l21Beat_any (beatF n low high l (most + 1).toNat).1 W; rw [B_f hb] at this; exact this)), Lib.hid (fun W A' c' h hc => iFitBeat_z n low high most l A' c' W h hl' hc hp (fun W => by have := goodBeat_any (beatF n low high l (most + 1).toNat).1 W; rw [B_f hb] at this; exact this))⟩
  · exact ⟨0, 0, 0, 0, false, Lib.hid (fun W A' c' h hc => sFitBeat_f n low high most l A' c' W h hl' hc hp), Lib.hid (fun W A' c' h hc => iFitBeat_f n low high most l A' c' W h hl' hc hp)⟩
namespace fnExactFitBeat
open Go.ChangeShapes Go.WideShapes Go.ChangeAt Go.RowKit Go.Deep
open Go.ChangeMaps (open_string shut_string)
theorem own : ownKnob Try.prog.godebug = none := by kernel_rfl
theorem laid : laidOutB Try.prog = true := by kernel_rfl
theorem reads : Try.f11.params.toList.all (fun t => Try.prog.readableRec t && decide (t < Try.prog.types.size)) = true := by kernel_rfl
set_option maxRecDepth 100000 in
theorem lifted (os : Os) (started : os.Started) (H : Type) (enc : TypeId × Value → H) :
    ReturnsInHanded {} Try.checked os 11 .any (Rows.fnExactFitBeatSpec.pre6 enc Try.prog Try.f11 Rows.fnExactFitBeatRow.domain false) (Rows.fnExactFitBeatSpec.post enc Try.prog Try.f11 false true false false) := by
  refine returnsInHanded_of_change (C := Try.checked) own started (by kernel_rfl) Try.func11
    (ChangeSpec.witness6 (enc := enc) (C := Try.checked) false ⟨#[], #[.int .i64 0, .slice none 0 0, .int .i64 0, .int .i64 0, .int .i64 0], []⟩ 8 (by kernel_rfl) (by kernel_rfl) (by kernel_rfl) (by kernel_rfl)) ?_
  intro W base args ds gs before hval0 hW hcnd _
  have hval : ∀ (j : Nat) t v, Try.f11.params[j]? = some t → args[j]? = some v → Value.okWide Try.prog W .any base t v := hval0
  have hW' := hW
  obtain ⟨p, q, hA0, hV, rfl, hfz, hnd⟩ := hW
  have hA : DataW.TrodAll enc Try.prog W 0 (fun _ => true) true Try.f11.params.toList args.toList ds p := hA0
  rw [Try.params11] at hA hval
  obtain ⟨rfl, rfl⟩ := trodVars_none hV
  have hlt : ∀ x ∈ p, x.block < W.heap.size := fun x hx => by simpa using hW'.lt x (List.mem_append.2 (.inl hx))
  clear hA0 hval0
  obtain ⟨v0, vs0, d0, ds0, p0, q0, hargs, rfl, rfl, h0, r0⟩ := trodAll_cons hA
  obtain ⟨v1, vs1, d1, ds1, p1, q1, rfl, rfl, rfl, h1, r1⟩ := trodAll_cons r0
  obtain ⟨v2, vs2, d2, ds2, p2, q2, rfl, rfl, rfl, h2, r2⟩ := trodAll_cons r1
  obtain ⟨v3, vs3, d3, ds3, p3, q3, rfl, rfl, rfl, h3, r3⟩ := trodAll_cons r2
  obtain ⟨v4, vs4, d4, ds4, p4, q4, rfl, rfl, rfl, h4, r4⟩ := trodAll_cons r3
  obtain ⟨rfl, rfl, rfl⟩ := trodAll_nil r4
  obtain rfl : args = #[v0, v1, v2, v3, v4] := by cases args; simp_all
  clear hargs
  obtain ⟨a0, rfl, rfl, rfl, z0⟩ := open_int Try.underlying3 (hval 0 3 v0 rfl rfl) h0
  obtain ⟨A1, a1, c1, rfl, y1, x1, z1⟩ := open_list Try.underlying77 3 (by kernel_rfl) (by omega) Blw.enc _ Blow_el (hval 1 77 v1 rfl rfl) h1
  obtain ⟨a2, rfl, rfl, rfl, z2⟩ := open_int Try.underlying3 (hval 2 3 v2 rfl rfl) h2
  obtain ⟨a3, rfl, rfl, rfl, z3⟩ := open_int Try.underlying3 (hval 3 3 v3 rfl rfl) h3
  obtain ⟨a4, rfl, rfl, rfl, z4⟩ := open_int Try.underlying3 (hval 4 3 v4 rfl rfl) h4
  refine (fitBeatLaw W a0 (by simpa [Lit.wf, IntKind.min, IntKind.max, IntKind.signed, IntKind.bits] using z0) a1 A1 c1 x1 (by unfold maxLen at y1; omega) z1 a2 (by simpa [Lit.wf, IntKind.min, IntKind.max, IntKind.signed, IntKind.bits] using z2) a3 (by simpa [Lit.wf, IntKind.min, IntKind.max, IntKind.signed, IntKind.bits] using z3) a4 (by simpa [Lit.wf, IntKind.min, IntKind.max, IntKind.signed, IntKind.bits] using z4)).mono fun e W' ⟨he, hg⟩ => ?_
  subst he
  exact ⟨_, rfl, law_post laid reads rfl Try.underlying4 rfl rfl hW' hg⟩
theorem over : Rows.fnExactFitBeatRow.holds Try.pinned (OpenSpec.ofChange Rows.fnExactFitBeatSpec) :=
  OpenClaim.holds_of_wide 11 Try.f11 rfl rfl rfl rfl rfl rfl rfl ⟨rfl, rfl, rfl, rfl, rfl⟩ rfl rfl rfl rfl rfl (by kernel_rfl) Try.func11 facts
    (of_decide_eq_true (by kernel_rfl)) (by unfold Func.isWrapper; first | (rw [if_pos (by decide +kernel)]; kernel_rfl) | (rw [if_neg (by decide +kernel)]; exact ⟨rfl, rfl⟩))
    (fun os started H enc _ => lifted os started H enc)
theorem proved : Rows.FnExactFitBeatSaid := over
end fnExactFitBeat
end Go.Proofs.Ytebmlcollanfhaa
