import Derived.Test.YtkegbbndmfnolaaMBeatsL11
import Derived.Test.YtkegbbndmfnolaaMBeatsL12
/-
  FitBeat of the program returns what the reference's returns, for all arguments: no condition.
-/
namespace Go.Proofs.Ytkegbbndmfnolaa
open Go.RowKit
set_option linter.unusedVariables false
set_option linter.unusedSimpArgs false
set_option maxRecDepth 100000

/-- A valid beat. -/
def beatP (t : Int × Int × Int) : Prop := inB t.1 0 1000000 ∧ inB t.2.1 1 2000 ∧ inB t.2.2 0 2000

theorem goodBeat_any (t : Int × Int × Int) (w : World) : Calls Try.prog 62 #[.agg #[.int .i64 t.1, .int .i64 t.2.1, .int .i64 t.2.2]] w fun e w' => e = .returned (.bool (B (beatP t))) ∧ Below w.heap.size w w' := by
  obtain ⟨a, b, c⟩ := t
  show Calls _ _ #[.agg #[.int .i64 a, .int .i64 b, .int .i64 c]] _ fun e w' => e = .returned (.bool (B (inB a 0 1000000 ∧ inB b 1 2000 ∧ inB c 0 2000))) ∧ _
  by_cases h_0 : inB a 0 1000000
  rotate_left
  · have H := Lib.hid h_0
    have e_0 := B_f h_0
    clear h_0
    go_enter Try.func62, Try.ntmps62
    go_wp2_with (go_at_call 59; refine (within_any _ _ _ _).mono ?_; rintro e w' ⟨rfl, rfl⟩)
    go_ret
    exact ⟨ret_f (fun x => H.out x.1), (Below.refl _ _).alloc (Nat.le_refl _) _⟩
  have H_0 := Lib.hid h_0
  have e_0 := B_t h_0
  clear h_0
  by_cases h_1 : inB b 1 2000
  rotate_left
  · have H := Lib.hid h_1
    have e_1 := B_f h_1
    clear h_1
    go_enter Try.func62, Try.ntmps62
    go_wp2_with (go_at_call 59; refine (within_any _ _ _ _).mono ?_; rintro e w' ⟨rfl, rfl⟩)
    go_ret
    exact ⟨ret_f (fun x => H.out x.2.1), (Below.refl _ _).alloc (Nat.le_refl _) _⟩
  have H_1 := Lib.hid h_1
  have e_1 := B_t h_1
  clear h_1
  by_cases h_2 : inB c 0 2000
  rotate_left
  · have H := Lib.hid h_2
    have e_2 := B_f h_2
    clear h_2
    go_enter Try.func62, Try.ntmps62
    go_wp2_with (go_at_call 59; refine (within_any _ _ _ _).mono ?_; rintro e w' ⟨rfl, rfl⟩)
    go_ret
    exact ⟨ret_f (fun x => H.out x.2.2), (Below.refl _ _).alloc (Nat.le_refl _) _⟩
  have H_2 := Lib.hid h_2
  have e_2 := B_t h_2
  clear h_2
  go_enter Try.func62, Try.ntmps62
  go_wp2_with (go_at_call 59; refine (within_any _ _ _ _).mono ?_; rintro e w' ⟨rfl, rfl⟩)
  go_ret
  exact ⟨ret_t ⟨H_0.out, H_1.out, H_2.out⟩, (Below.refl _ _).alloc (Nat.le_refl _) _⟩

theorem l21Beat_any (t : Int × Int × Int) (w : World) : Calls Try.prog 32 #[.agg #[.int .i64 t.1, .int .i64 t.2.1, .int .i64 t.2.2]] w fun e w' => e = .returned (.bool (B (beatP t))) ∧ Below w.heap.size w w' := by
  obtain ⟨a, b, c⟩ := t
  show Calls _ _ #[.agg #[.int .i64 a, .int .i64 b, .int .i64 c]] _ fun e w' => e = .returned (.bool (B (inB a 0 1000000 ∧ inB b 1 2000 ∧ inB c 0 2000))) ∧ _
  by_cases h_0 : inB a 0 1000000
  rotate_left
  · have H := Lib.hid h_0
    have e_0 := B_f h_0
    clear h_0
    go_enter Try.func32, Try.ntmps32
    go_wp2_with (go_at_call 56; refine (l1In_any _ _ _ _).mono ?_; rintro e w' ⟨rfl, rfl⟩)
    go_ret
    exact ⟨ret_f (fun x => H.out x.1), (Below.refl _ _).alloc (Nat.le_refl _) _⟩
  have H_0 := Lib.hid h_0
  have e_0 := B_t h_0
  clear h_0
  by_cases h_1 : inB b 1 2000
  rotate_left
  · have H := Lib.hid h_1
    have e_1 := B_f h_1
    clear h_1
    go_enter Try.func32, Try.ntmps32
    go_wp2_with (go_at_call 56; refine (l1In_any _ _ _ _).mono ?_; rintro e w' ⟨rfl, rfl⟩)
    go_ret
    exact ⟨ret_f (fun x => H.out x.2.1), (Below.refl _ _).alloc (Nat.le_refl _) _⟩
  have H_1 := Lib.hid h_1
  have e_1 := B_t h_1
  clear h_1
  by_cases h_2 : inB c 0 2000
  rotate_left
  · have H := Lib.hid h_2
    have e_2 := B_f h_2
    clear h_2
    go_enter Try.func32, Try.ntmps32
    go_wp2_with (go_at_call 56; refine (l1In_any _ _ _ _).mono ?_; rintro e w' ⟨rfl, rfl⟩)
    go_ret
    exact ⟨ret_f (fun x => H.out x.2.2), (Below.refl _ _).alloc (Nat.le_refl _) _⟩
  have H_2 := Lib.hid h_2
  have e_2 := B_t h_2
  clear h_2
  go_enter Try.func32, Try.ntmps32
  go_wp2_with (go_at_call 56; refine (l1In_any _ _ _ _).mono ?_; rintro e w' ⟨rfl, rfl⟩)
  go_ret
  exact ⟨ret_t ⟨H_0.out, H_1.out, H_2.out⟩, (Below.refl _ _).alloc (Nat.le_refl _) _⟩

/-- What is best among the first k handstroke gaps. -/
noncomputable def beatF (n low high : Int) (l : List Blw) : Nat → (Int × Int × Int) × Int
  | 0 => ((0, 0, 0), -1)
  | k + 1 => if (beatF n low high l k).2 < 0 ∨ (gapF n (50 * k) l low (high - low + 1).toNat).2.2 < (beatF n low high l k).2 then (((gapF n (50 * k) l low (high - low + 1).toNat).1, (gapF n (50 * k) l low (high - low + 1).toNat).2.1, 50 * (k : Int)), (gapF n (50 * k) l low (high - low + 1).toNat).2.2) else beatF n low high l k
def fitBP (n : Int) (l : List Blw) (low high most : Int) : Prop := blowsP n l ∧ 0 < l.length ∧ rangeP low high ∧ inB most 0 40
theorem fitBP_at {n low high most : Int} {l : List Blw} (h : fitBP n l low high most) {k : Nat} (hk : (k : Int) ≤ most) : fitGP n l low high (50 * k) := by
  obtain ⟨a, b, c, ⟨d1, d2⟩⟩ := h
  exact ⟨a, b, c, ⟨by omega, by omega⟩⟩
theorem beatF_bd {n low high most : Int} {l : List Blw} (h : fitBP n l low high most) : ∀ k : Nat, (k : Int) ≤ most + 1 → -1 ≤ (beatF n low high l k).2 ∧ (beatF n low high l k).2 ≤ 12000000000
  | 0, _ => by simp [beatF]
  | k + 1, hk => by
    have ih := beatF_bd h k (by omega)
    have hg := fitBP_at h (k := k) (by omega)
    have hb := gapF_bd hg (high - low + 1).toNat (by have := hg.2.2.1.2.1; omega)
    simp only [beatF]
    split
    · simp only; omega
    · exact ih
theorem fitGP_fit0 {n low high most : Int} {l : List Blw} (h : fitBP n l low high most) : fitP n l low 0 := by
  have := fitGP_at (fitBP_at h (k := 0) (by have := h.2.2.2.1; omega)) (Int.le_refl _) h.2.2.1.2.1
  simpa using this
/-- A beat's cells. -/
def bt (t : Int × Int × Int) : Nat → Value := fun i => match i with
  | 0 => .int .i64 t.1
  | 1 => .int .i64 t.2.1
  | _ => .int .i64 t.2.2
theorem bt_set {w : World} {g : Nat} {t : Int × Int × Int} (h : Cells w g 3 (bt t)) (a b c : Int) : Cells (((w.setCell ⟨g, 0, none⟩ (.int .i64 a)).setCell ⟨g, 1, none⟩ (.int .i64 b)).setCell ⟨g, 2, none⟩ (.int .i64 c)) g 3 (bt (a, b, c)) :=
  (((h.set (i := 0) (by omega) _).set (i := 1) (by omega) _).set (i := 2) (by omega) _).congr fun i hi => by
    rcases (show i = 0 ∨ i = 1 ∨ i = 2 by omega) with rfl | rfl | rfl <;> rfl
theorem bt_new (w : World) (T : TypeId) : Cells (w.alloc (.cells #[.int .i64 0, .int .i64 0, .int .i64 0] T)) w.heap.size 3 (bt (0, 0, 0)) :=
  Cells.new _ _ _ 3 _ (fun i hi => by rcases (show i = 0 ∨ i = 1 ∨ i = 2 by omega) with rfl | rfl | rfl <;> rfl)















set_option maxHeartbeats 3200000 in
theorem iFitBeat_y (n low high most : Int) (l : List Blw) (A : Option Addr) (c : Nat) (w : World) (h : RdL w w.heap.size A 3 Blw.enc l) (hl : l.length ≤ 1048576) (hc : l.length ≤ c) (hp : fitBP n l low high most) (hbt : ∀ W, Calls Try.prog 62 #[.agg #[.int .i64 (beatF n low high l (most + 1).toNat).1.1, .int .i64 (beatF n low high l (most + 1).toNat).1.2.1, .int .i64 (beatF n low high l (most + 1).toNat).1.2.2]] W fun e w' => e = .returned (.bool true) ∧ Below W.heap.size W w') :
    Calls Try.prog 28 #[.int .i64 n, .slice A l.length c, .int .i64 low, .int .i64 high, .int .i64 most] w fun e w' => e = .returned (.tuple #[.agg #[.int .i64 (beatF n low high l (most + 1).toNat).1.1, .int .i64 (beatF n low high l (most + 1).toNat).1.2.1, .int .i64 (beatF n low high l (most + 1).toNat).1.2.2], .int .i64 (beatF n low high l (most + 1).toNat).2, .bool true]) ∧ Below w.heap.size w w' := by
  have e2 := B_t (fitGP_fit0 hp)
  have HV := Lib.hid h
  have HP := Lib.hid hp
  have e1 := B_t hp.2.2.1
  have e3 := B_t hp.2.2.2
  obtain ⟨m1, m2⟩ := hp.2.2.2
  have hcall : Hid (∀ (k : Nat) (W : World), (k : Int) ≤ most → Below w.heap.size w W → Calls Try.prog 54 #[.int .i64 n, .slice A l.length c, .int .i64 low, .int .i64 high, .int .i64 (50 * (k : Int))] W fun e w' => e = .returned (.tuple #[.int .i64 (gapF n (50 * k) l low (high - low + 1).toNat).1, .int .i64 (gapF n (50 * k) l low (high - low + 1).toNat).2.1, .int .i64 (gapF n (50 * k) l low (high - low + 1).toNat).2.2]) ∧ Below W.heap.size W w') := Lib.hid (fun k W h1 hb =>
    fitGap_any n low high (50 * k) l A c W ((h.below hb (Nat.le_refl _)).more hb.size) (fitBP_at hp h1))
  have hgb : Hid (∀ k : Nat, (k : Int) ≤ most → -1 ≤ (gapF n (50 * k) l low (high - low + 1).toNat).2.2 ∧ (gapF n (50 * k) l low (high - low + 1).toNat).2.2 ≤ 12000000000) := Lib.hid (fun k hk => by
    have hg := fitBP_at hp hk
    have hb := gapF_bd hg (high - low + 1).toNat (by have := hg.2.2.1.2.1; omega)
    omega)
  have hfb := Lib.hid (beatF_bd hp)
  have hgs : Hid (∀ k : Nat, beatF n low high l (k + 1) = if (beatF n low high l k).2 < 0 ∨ (gapF n (50 * k) l low (high - low + 1).toNat).2.2 < (beatF n low high l k).2 then (((gapF n (50 * k) l low (high - low + 1).toNat).1, (gapF n (50 * k) l low (high - low + 1).toNat).2.1, 50 * (k : Int)), (gapF n (50 * k) l low (high - low + 1).toNat).2.2) else beatF n low high l k) := Lib.hid (fun k => rfl)
  have hg0 : Hid (beatF n low high l 0 = ((0, 0, 0), -1)) := Lib.hid rfl
  generalize beatF n low high l = G at hfb hgs hg0 hbt ⊢
  have hb0 : Hid (Below w.heap.size w (w.alloc (.cells #[.int .i64 0, .int .i64 0, .int .i64 0] 31))) := Lib.hid ((Below.refl _ _).alloc (Nat.le_refl _) _)
  have HC0 := Lib.hid (bt_new w 31)
  clear h hp
  go_enter Try.func28, Try.ntmps28
  go_wp2_with (first | (go_at_call 52; refine (goodRange_any _ _ _).mono ?_; rintro e w' ⟨rfl, rfl⟩) | (go_at_call 53; refine (goodFit_any n low 0 l A c _ ((HV.out.below hb0.out (Nat.le_refl _)).more hb0.out.size) hl hc).mono ?_; rintro e w1 ⟨rfl, hb1⟩; have HC1 := Lib.hid (HC0.out.later hb1); have HB1 : Hid (Below w.heap.size w w1) := Lib.hid (hb0.out.trans (hb1.mono hb0.out.size)); clear hb1; have p_0 := HC1.out.cell (i := 0) (by omega); have p_1 := HC1.out.cell (i := 1) (by omega); have p_2 := HC1.out.cell (i := 2) (by omega); have pf0 := HC1.out.free (i := 0) (by omega); have pf1 := HC1.out.free (i := 1) (by omega); have pf2 := HC1.out.free (i := 2) (by omega); simp only [bt] at p_0 p_1 p_2) | (go_at_call 59; refine (within_any _ _ _ _).mono ?_; rintro e w' ⟨rfl, rfl⟩))
  clear p_0 p_1 p_2 pf0 pf1 pf2
  have HC3 : Hid (Cells (w1.alloc (.cells #[.int .i64 0, .int .i64 0, .int .i64 0] 31)) w1.heap.size 3 (bt (0, 0, 0))) := Lib.hid (bt_new w1 31)
  have HZ3 : Hid (Cells (w1.alloc (.cells #[.int .i64 0, .int .i64 0, .int .i64 0] 31)) w.heap.size 3 (bt (0, 0, 0))) := Lib.hid (HC1.out.later ((Below.refl _ _).alloc (Nat.le_refl _) _))
  have hw1 : w.heap.size < w1.heap.size := HC1.out.lt
  have HB3 : Hid (Below w.heap.size w (w1.alloc (.cells #[.int .i64 0, .int .i64 0, .int .i64 0] 31))) := Lib.hid (HB1.out.alloc (Nat.le_of_lt hw1) _)
  generalize (w1.alloc (.cells #[.int .i64 0, .int .i64 0, .int .i64 0] 31)) = w3 at *
  generalize w1.heap.size = g3 at *
  go_loopw [14, 15] (fun v i wr => ∃ k : Nat, (k : Int) ≤ most + 1 ∧ i = .int .i64 (50 * (k : Int)) ∧ v = .int .i64 (G k).2 ∧ Hid (Cells wr g3 3 (bt (G k).1)) ∧ Hid (Cells wr w.heap.size 3 (bt (0, 0, 0))) ∧ Hid (Below w.heap.size w wr)) (fun _ i _ => (2060 - intOf i).toNat)
  case atStart => exact ⟨0, by omega, by simp, by rw [hg0.out], Lib.hid (by rw [hg0.out]; exact HC3.out), HZ3, HB3⟩
  case round =>
    obtain ⟨k, hk, rfl, rfl, hcg, hcz, hbl⟩ := hrel
    have hgz := hbl.out.size
    have hgk := hfb.out k hk
    have hst := hgs.out k
    obtain ⟨t0, ht0⟩ : ∃ s, Hid ((G k).1 = s) := ⟨_, Lib.hid rfl⟩
    obtain ⟨b0, hb0'⟩ : ∃ s, Hid ((G k).2 = s) := ⟨_, Lib.hid rfl⟩
    rw [hb0'.out] at hgk hst
    rw [ht0.out] at hcg
    rw [hb0'.out]
    obtain ⟨a1, a2⟩ := hgk
    have Hst := Lib.hid hst
    clear hst
    by_cases hlt : (k : Int) ≤ most
    · have hc1 := hcall.out k wr hlt hbl.out
      obtain ⟨f1, f2⟩ := hgb.out k hlt
      generalize gapF n (50 * k) l low (high - low + 1).toNat = r at hc1 Hst f1 f2
      obtain ⟨rs, rg, rv⟩ := r
      simp only at hc1 f1 f2
      have Hc1 := Lib.hid hc1
      clear hc1
      by_cases c1 : b0 < 0 ∨ rv < b0
      · have Hst2 : Hid (G (k + 1) = ((rs, rg, 50 * (k : Int)), rv)) := Lib.hid (by rw [Hst.out, if_pos c1])
        clear Hst
        rcases c1 with c1 | c1
        all_goals
          try (have c2 : ¬ b0 < 0 := by omega)
          go_wp2_with (go_at_call 54; refine Hc1.out.mono ?_; rintro e w5 ⟨rfl, hb5⟩; have HC5 := Lib.hid (hcg.out.later hb5); have HZ5 := Lib.hid (hcz.out.later hb5); have HB5 : Hid (Below w.heap.size w w5) := Lib.hid (hbl.out.trans (hb5.mono hgz)); clear hb5; have p_0 := HC5.out.cell (i := 0) (by omega); have p_1 := HC5.out.cell (i := 1) (by omega); have p_2 := HC5.out.cell (i := 2) (by omega); have pf0 := HC5.out.free (i := 0) (by omega); have pf1 := HC5.out.free (i := 1) (by omega); have pf2 := HC5.out.free (i := 2) (by omega))
          go_roundw
          case rel => exact ⟨k + 1, by omega, by go_num, by rw [Hst2.out], Lib.hid (by rw [Hst2.out]; exact bt_set HC5.out _ _ _), Lib.hid (((HZ5.out.other (by simp; omega) _).other (by simp; omega) _).other (by simp; omega) _), Lib.hid (by repeat (first | exact HB5.out | refine Below.setCell ?_ (by first | exact Nat.le_refl _ | (simp; done) | (simp; omega)) _))⟩
          case measure => simp [intOf]; omega
      · have Hst2 : Hid (G (k + 1) = G k) := Lib.hid (by rw [Hst.out, if_neg c1])
        clear Hst
        have c2 : ¬ b0 < 0 := fun h => c1 (.inl h)
        have c3 : ¬ rv < b0 := fun h => c1 (.inr h)
        go_wp2_with (go_at_call 54; refine Hc1.out.mono ?_; rintro e w5 ⟨rfl, hb5⟩)
        go_roundw
        case rel => exact ⟨k + 1, by omega, by go_num, by rw [Hst2.out, hb0'.out], Lib.hid (by rw [Hst2.out, ht0.out]; exact hcg.out.later hb5), Lib.hid (hcz.out.later hb5), Lib.hid (hbl.out.trans (hb5.mono hgz))⟩
        case measure => simp [intOf]; omega
    · have hkk : k = (most + 1).toNat := by omega
      rw [← hkk, ht0.out] at hbt
      have Hkk := Lib.hid hkk
      obtain ⟨s0, g0, h0⟩ := t0
      have Hbt := Lib.hid hbt
      clear hbt hkk Hst
      have p_0 := hcg.out.cell (i := 0) (by omega)
      have p_1 := hcg.out.cell (i := 1) (by omega)
      have p_2 := hcg.out.cell (i := 2) (by omega)
      simp only [bt] at p_0 p_1 p_2
      go_wp2_with (go_at_call 62; refine (Hbt.out wr).mono ?_; rintro e w6 ⟨rfl, hb6⟩; have HC6 := Lib.hid (hcg.out.later hb6); have HZ6 := Lib.hid (hcz.out.later hb6); have HB6 : Hid (Below w.heap.size w w6) := Lib.hid (hbl.out.trans (hb6.mono hgz)); clear hb6; have q_0 := HC6.out.cell (i := 0) (by omega); have q_1 := HC6.out.cell (i := 1) (by omega); have q_2 := HC6.out.cell (i := 2) (by omega); simp only [bt] at q_0 q_1 q_2; have z_0 := HZ6.out.cell (i := 0) (by omega); have z_1 := HZ6.out.cell (i := 1) (by omega); have z_2 := HZ6.out.cell (i := 2) (by omega); have zf0 := HZ6.out.free (i := 0) (by omega); have zf1 := HZ6.out.free (i := 1) (by omega); have zf2 := HZ6.out.free (i := 2) (by omega))
      refine bodyPost_ret (v := .tuple #[.agg #[.int .i64 s0, .int .i64 g0, .int .i64 h0], .int .i64 b0, .bool true]) (by simp [results, Try.results28, go_sem, z_0, z_1, z_2, zf0, zf1, zf2]) rfl ⟨by first | rfl | rw [← Hkk.out, ht0.out, hb0'.out], ?_⟩
      repeat (first | exact HB6.out | refine Below.setCell ?_ (by first | exact Nat.le_refl _ | (simp; done) | (simp; omega)) _)
set_option maxHeartbeats 3200000 in
theorem iFitBeat_z (n low high most : Int) (l : List Blw) (A : Option Addr) (c : Nat) (w : World) (h : RdL w w.heap.size A 3 Blw.enc l) (hl : l.length ≤ 1048576) (hc : l.length ≤ c) (hp : fitBP n l low high most) (hbt : ∀ W, Calls Try.prog 62 #[.agg #[.int .i64 (beatF n low high l (most + 1).toNat).1.1, .int .i64 (beatF n low high l (most + 1).toNat).1.2.1, .int .i64 (beatF n low high l (most + 1).toNat).1.2.2]] W fun e w' => e = .returned (.bool false) ∧ Below W.heap.size W w') :
    Calls Try.prog 28 #[.int .i64 n, .slice A l.length c, .int .i64 low, .int .i64 high, .int .i64 most] w fun e w' => e = .returned (.tuple #[.agg #[.int .i64 0, .int .i64 0, .int .i64 0], .int .i64 0, .bool false]) ∧ Below w.heap.size w w' := by
  have e2 := B_t (fitGP_fit0 hp)
  have HV := Lib.hid h
  have HP := Lib.hid hp
  have e1 := B_t hp.2.2.1
  have e3 := B_t hp.2.2.2
  obtain ⟨m1, m2⟩ := hp.2.2.2
  have hcall : Hid (∀ (k : Nat) (W : World), (k : Int) ≤ most → Below w.heap.size w W → Calls Try.prog 54 #[.int .i64 n, .slice A l.length c, .int .i64 low, .int .i64 high, .int .i64 (50 * (k : Int))] W fun e w' => e = .returned (.tuple #[.int .i64 (gapF n (50 * k) l low (high - low + 1).toNat).1, .int .i64 (gapF n (50 * k) l low (high - low + 1).toNat).2.1, .int .i64 (gapF n (50 * k) l low (high - low + 1).toNat).2.2]) ∧ Below W.heap.size W w') := Lib.hid (fun k W h1 hb =>
    fitGap_any n low high (50 * k) l A c W ((h.below hb (Nat.le_refl _)).more hb.size) (fitBP_at hp h1))
  have hgb : Hid (∀ k : Nat, (k : Int) ≤ most → -1 ≤ (gapF n (50 * k) l low (high - low + 1).toNat).2.2 ∧ (gapF n (50 * k) l low (high - low + 1).toNat).2.2 ≤ 12000000000) := Lib.hid (fun k hk => by
    have hg := fitBP_at hp hk
    have hb := gapF_bd hg (high - low + 1).toNat (by have := hg.2.2.1.2.1; omega)
    omega)
  have hfb := Lib.hid (beatF_bd hp)
  have hgs : Hid (∀ k : Nat, beatF n low high l (k + 1) = if (beatF n low high l k).2 < 0 ∨ (gapF n (50 * k) l low (high - low + 1).toNat).2.2 < (beatF n low high l k).2 then (((gapF n (50 * k) l low (high - low + 1).toNat).1, (gapF n (50 * k) l low (high - low + 1).toNat).2.1, 50 * (k : Int)), (gapF n (50 * k) l low (high - low + 1).toNat).2.2) else beatF n low high l k) := Lib.hid (fun k => rfl)
  have hg0 : Hid (beatF n low high l 0 = ((0, 0, 0), -1)) := Lib.hid rfl
  generalize beatF n low high l = G at hfb hgs hg0 hbt ⊢
  have hb0 : Hid (Below w.heap.size w (w.alloc (.cells #[.int .i64 0, .int .i64 0, .int .i64 0] 31))) := Lib.hid ((Below.refl _ _).alloc (Nat.le_refl _) _)
  have HC0 := Lib.hid (bt_new w 31)
  clear h hp
  go_enter Try.func28, Try.ntmps28
  go_wp2_with (first | (go_at_call 52; refine (goodRange_any _ _ _).mono ?_; rintro e w' ⟨rfl, rfl⟩) | (go_at_call 53; refine (goodFit_any n low 0 l A c _ ((HV.out.below hb0.out (Nat.le_refl _)).more hb0.out.size) hl hc).mono ?_; rintro e w1 ⟨rfl, hb1⟩; have HC1 := Lib.hid (HC0.out.later hb1); have HB1 : Hid (Below w.heap.size w w1) := Lib.hid (hb0.out.trans (hb1.mono hb0.out.size)); clear hb1; have p_0 := HC1.out.cell (i := 0) (by omega); have p_1 := HC1.out.cell (i := 1) (by omega); have p_2 := HC1.out.cell (i := 2) (by omega); have pf0 := HC1.out.free (i := 0) (by omega); have pf1 := HC1.out.free (i := 1) (by omega); have pf2 := HC1.out.free (i := 2) (by omega); simp only [bt] at p_0 p_1 p_2) | (go_at_call 59; refine (within_any _ _ _ _).mono ?_; rintro e w' ⟨rfl, rfl⟩))
  clear p_0 p_1 p_2 pf0 pf1 pf2
  have HC3 : Hid (Cells (w1.alloc (.cells #[.int .i64 0, .int .i64 0, .int .i64 0] 31)) w1.heap.size 3 (bt (0, 0, 0))) := Lib.hid (bt_new w1 31)
  have HZ3 : Hid (Cells (w1.alloc (.cells #[.int .i64 0, .int .i64 0, .int .i64 0] 31)) w.heap.size 3 (bt (0, 0, 0))) := Lib.hid (HC1.out.later ((Below.refl _ _).alloc (Nat.le_refl _) _))
  have hw1 : w.heap.size < w1.heap.size := HC1.out.lt
  have HB3 : Hid (Below w.heap.size w (w1.alloc (.cells #[.int .i64 0, .int .i64 0, .int .i64 0] 31))) := Lib.hid (HB1.out.alloc (Nat.le_of_lt hw1) _)
  generalize (w1.alloc (.cells #[.int .i64 0, .int .i64 0, .int .i64 0] 31)) = w3 at *
  generalize w1.heap.size = g3 at *
  go_loopw [14, 15] (fun v i wr => ∃ k : Nat, (k : Int) ≤ most + 1 ∧ i = .int .i64 (50 * (k : Int)) ∧ v = .int .i64 (G k).2 ∧ Hid (Cells wr g3 3 (bt (G k).1)) ∧ Hid (Cells wr w.heap.size 3 (bt (0, 0, 0))) ∧ Hid (Below w.heap.size w wr)) (fun _ i _ => (2060 - intOf i).toNat)
  case atStart => exact ⟨0, by omega, by simp, by rw [hg0.out], Lib.hid (by rw [hg0.out]; exact HC3.out), HZ3, HB3⟩
  case round =>
    obtain ⟨k, hk, rfl, rfl, hcg, hcz, hbl⟩ := hrel
    have hgz := hbl.out.size
    have hgk := hfb.out k hk
    have hst := hgs.out k
    obtain ⟨t0, ht0⟩ : ∃ s, Hid ((G k).1 = s) := ⟨_, Lib.hid rfl⟩
    obtain ⟨b0, hb0'⟩ : ∃ s, Hid ((G k).2 = s) := ⟨_, Lib.hid rfl⟩
    rw [hb0'.out] at hgk hst
    rw [ht0.out] at hcg
    rw [hb0'.out]
    obtain ⟨a1, a2⟩ := hgk
    have Hst := Lib.hid hst
    clear hst
    by_cases hlt : (k : Int) ≤ most
    · have hc1 := hcall.out k wr hlt hbl.out
      obtain ⟨f1, f2⟩ := hgb.out k hlt
      generalize gapF n (50 * k) l low (high - low + 1).toNat = r at hc1 Hst f1 f2
      obtain ⟨rs, rg, rv⟩ := r
      simp only at hc1 f1 f2
      have Hc1 := Lib.hid hc1
      clear hc1
      by_cases c1 : b0 < 0 ∨ rv < b0
      · have Hst2 : Hid (G (k + 1) = ((rs, rg, 50 * (k : Int)), rv)) := Lib.hid (by rw [Hst.out, if_pos c1])
        clear Hst
        rcases c1 with c1 | c1
        all_goals
          try (have c2 : ¬ b0 < 0 := by omega)
          go_wp2_with (go_at_call 54; refine Hc1.out.mono ?_; rintro e w5 ⟨rfl, hb5⟩; have HC5 := Lib.hid (hcg.out.later hb5); have HZ5 := Lib.hid (hcz.out.later hb5); have HB5 : Hid (Below w.heap.size w w5) := Lib.hid (hbl.out.trans (hb5.mono hgz)); clear hb5; have p_0 := HC5.out.cell (i := 0) (by omega); have p_1 := HC5.out.cell (i := 1) (by omega); have p_2 := HC5.out.cell (i := 2) (by omega); have pf0 := HC5.out.free (i := 0) (by omega); have pf1 := HC5.out.free (i := 1) (by omega); have pf2 := HC5.out.free (i := 2) (by omega))
          go_roundw
          case rel => exact ⟨k + 1, by omega, by go_num, by rw [Hst2.out], Lib.hid (by rw [Hst2.out]; exact bt_set HC5.out _ _ _), Lib.hid (((HZ5.out.other (by simp; omega) _).other (by simp; omega) _).other (by simp; omega) _), Lib.hid (by repeat (first | exact HB5.out | refine Below.setCell ?_ (by first | exact Nat.le_refl _ | (simp; done) | (simp; omega)) _))⟩
          case measure => simp [intOf]; omega
      · have Hst2 : Hid (G (k + 1) = G k) := Lib.hid (by rw [Hst.out, if_neg c1])
        clear Hst
        have c2 : ¬ b0 < 0 := fun h => c1 (.inl h)
        have c3 : ¬ rv < b0 := fun h => c1 (.inr h)
        go_wp2_with (go_at_call 54; refine Hc1.out.mono ?_; rintro e w5 ⟨rfl, hb5⟩)
        go_roundw
        case rel => exact ⟨k + 1, by omega, by go_num, by rw [Hst2.out, hb0'.out], Lib.hid (by rw [Hst2.out, ht0.out]; exact hcg.out.later hb5), Lib.hid (hcz.out.later hb5), Lib.hid (hbl.out.trans (hb5.mono hgz))⟩
        case measure => simp [intOf]; omega
    · have hkk : k = (most + 1).toNat := by omega
      rw [← hkk, ht0.out] at hbt
      have Hkk := Lib.hid hkk
      obtain ⟨s0, g0, h0⟩ := t0
      have Hbt := Lib.hid hbt
      clear hbt hkk Hst
      have p_0 := hcg.out.cell (i := 0) (by omega)
      have p_1 := hcg.out.cell (i := 1) (by omega)
      have p_2 := hcg.out.cell (i := 2) (by omega)
      simp only [bt] at p_0 p_1 p_2
      go_wp2_with (go_at_call 62; refine (Hbt.out wr).mono ?_; rintro e w6 ⟨rfl, hb6⟩; have HC6 := Lib.hid (hcg.out.later hb6); have HZ6 := Lib.hid (hcz.out.later hb6); have HB6 : Hid (Below w.heap.size w w6) := Lib.hid (hbl.out.trans (hb6.mono hgz)); clear hb6; have q_0 := HC6.out.cell (i := 0) (by omega); have q_1 := HC6.out.cell (i := 1) (by omega); have q_2 := HC6.out.cell (i := 2) (by omega); simp only [bt] at q_0 q_1 q_2; have z_0 := HZ6.out.cell (i := 0) (by omega); have z_1 := HZ6.out.cell (i := 1) (by omega); have z_2 := HZ6.out.cell (i := 2) (by omega); have zf0 := HZ6.out.free (i := 0) (by omega); have zf1 := HZ6.out.free (i := 1) (by omega); have zf2 := HZ6.out.free (i := 2) (by omega))
      refine bodyPost_ret (v := .tuple #[.agg #[.int .i64 0, .int .i64 0, .int .i64 0], .int .i64 0, .bool false]) (by simp [results, Try.results28, go_sem, z_0, z_1, z_2, zf0, zf1, zf2]) rfl ⟨by first | rfl | rw [← Hkk.out, ht0.out, hb0'.out], ?_⟩
      repeat (first | exact HB6.out | refine Below.setCell ?_ (by first | exact Nat.le_refl _ | (simp; done) | (simp; omega)) _)

set_option maxHeartbeats 800000 in
theorem iFitBeat_f (n low high most : Int) (l : List Blw) (A : Option Addr) (c : Nat) (w : World) (h : RdL w w.heap.size A 3 Blw.enc l) (hl : l.length ≤ 1048576) (hc : l.length ≤ c) (hp : ¬ fitBP n l low high most) :
    Calls Try.prog 28 #[.int .i64 n, .slice A l.length c, .int .i64 low, .int .i64 high, .int .i64 most] w fun e w' => e = .returned (.tuple #[.agg #[.int .i64 0, .int .i64 0, .int .i64 0], .int .i64 0, .bool false]) ∧ Below w.heap.size w w' := by
  have HV := Lib.hid h
  have hb0 : Hid (Below w.heap.size w (w.alloc (.cells #[.int .i64 0, .int .i64 0, .int .i64 0] 31))) := Lib.hid ((Below.refl _ _).alloc (Nat.le_refl _) _)
  have HC0 := Lib.hid (bt_new w 31)
  clear h
  by_cases h1 : rangeP low high
  rotate_left
  · have e1 := B_f h1
    clear hp h1
    go_enter Try.func28, Try.ntmps28
    go_wp2_with (first | (go_at_call 52; refine (goodRange_any _ _ _).mono ?_; rintro e w' ⟨rfl, rfl⟩))
    refine bodyPost_ret (v := .tuple #[.agg #[.int .i64 0, .int .i64 0, .int .i64 0], .int .i64 0, .bool false]) (by simp [results, Try.results28, go_sem ]) rfl ⟨rfl, ?_⟩
    repeat (first | exact Below.refl _ _ | exact HB1.out | refine Below.setCell ?_ (by first | exact Nat.le_refl _ | (simp; done) | (simp; omega)) _ | refine Below.alloc ?_ (by first | exact Nat.le_refl _ | (simp; done) | (simp; omega)) _)
  have e1 := B_t h1
  by_cases h2 : fitP n l low 0
  rotate_left
  · have e2 := B_f h2
    clear hp h1 h2
    go_enter Try.func28, Try.ntmps28
    go_wp2_with (first | (go_at_call 52; refine (goodRange_any _ _ _).mono ?_; rintro e w' ⟨rfl, rfl⟩) | (go_at_call 53; refine (goodFit_any n low 0 l A c _ ((HV.out.below hb0.out (Nat.le_refl _)).more hb0.out.size) hl hc).mono ?_; rintro e w1 ⟨rfl, hb1⟩; have HC1 := Lib.hid (HC0.out.later hb1); have HB1 : Hid (Below w.heap.size w w1) := Lib.hid (hb0.out.trans (hb1.mono hb0.out.size)); clear hb1; have p_0 := HC1.out.cell (i := 0) (by omega); have p_1 := HC1.out.cell (i := 1) (by omega); have p_2 := HC1.out.cell (i := 2) (by omega); have pf0 := HC1.out.free (i := 0) (by omega); have pf1 := HC1.out.free (i := 1) (by omega); have pf2 := HC1.out.free (i := 2) (by omega); simp only [bt] at p_0 p_1 p_2))
    refine bodyPost_ret (v := .tuple #[.agg #[.int .i64 0, .int .i64 0, .int .i64 0], .int .i64 0, .bool false]) (by simp [results, Try.results28, go_sem , p_0, p_1, p_2, pf0, pf1, pf2]) rfl ⟨rfl, ?_⟩
    repeat (first | exact Below.refl _ _ | exact HB1.out | refine Below.setCell ?_ (by first | exact Nat.le_refl _ | (simp; done) | (simp; omega)) _ | refine Below.alloc ?_ (by first | exact Nat.le_refl _ | (simp; done) | (simp; omega)) _)
  have e2 := B_t h2
  have e3 := B_f (fun h3 => hp ⟨h2.1, h2.2.1, h1, h3⟩)
  clear hp h1 h2
  go_enter Try.func28, Try.ntmps28
  go_wp2_with (first | (go_at_call 52; refine (goodRange_any _ _ _).mono ?_; rintro e w' ⟨rfl, rfl⟩) | (go_at_call 53; refine (goodFit_any n low 0 l A c _ ((HV.out.below hb0.out (Nat.le_refl _)).more hb0.out.size) hl hc).mono ?_; rintro e w1 ⟨rfl, hb1⟩; have HC1 := Lib.hid (HC0.out.later hb1); have HB1 : Hid (Below w.heap.size w w1) := Lib.hid (hb0.out.trans (hb1.mono hb0.out.size)); clear hb1; have p_0 := HC1.out.cell (i := 0) (by omega); have p_1 := HC1.out.cell (i := 1) (by omega); have p_2 := HC1.out.cell (i := 2) (by omega); have pf0 := HC1.out.free (i := 0) (by omega); have pf1 := HC1.out.free (i := 1) (by omega); have pf2 := HC1.out.free (i := 2) (by omega); simp only [bt] at p_0 p_1 p_2) | (go_at_call 59; refine (within_any _ _ _ _).mono ?_; rintro e w' ⟨rfl, rfl⟩))
  refine bodyPost_ret (v := .tuple #[.agg #[.int .i64 0, .int .i64 0, .int .i64 0], .int .i64 0, .bool false]) (by simp [results, Try.results28, go_sem , p_0, p_1, p_2, pf0, pf1, pf2]) rfl ⟨rfl, ?_⟩
  repeat (first | exact Below.refl _ _ | exact HB1.out | refine Below.setCell ?_ (by first | exact Nat.le_refl _ | (simp; done) | (simp; omega)) _ | refine Below.alloc ?_ (by first | exact Nat.le_refl _ | (simp; done) | (simp; omega)) _)

set_option maxHeartbeats 3200000 in
theorem sFitBeat_y (n low high most : Int) (l : List Blw) (A : Option Addr) (c : Nat) (w : World) (h : RdL w w.heap.size A 3 Blw.enc l) (hl : l.length ≤ 1048576) (hc : l.length ≤ c) (hp : fitBP n l low high most) (hbt : ∀ W, Calls Try.prog 32 #[.agg #[.int .i64 (beatF n low high l (most + 1).toNat).1.1, .int .i64 (beatF n low high l (most + 1).toNat).1.2.1, .int .i64 (beatF n low high l (most + 1).toNat).1.2.2]] W fun e w' => e = .returned (.bool true) ∧ Below W.heap.size W w') :
    Calls Try.prog 29 #[.int .i64 n, .slice A l.length c, .int .i64 low, .int .i64 high, .int .i64 most] w fun e w' => e = .returned (.tuple #[.agg #[.int .i64 (beatF n low high l (most + 1).toNat).1.1, .int .i64 (beatF n low high l (most + 1).toNat).1.2.1, .int .i64 (beatF n low high l (most + 1).toNat).1.2.2], .int .i64 (beatF n low high l (most + 1).toNat).2, .bool true]) ∧ Below w.heap.size w w' := by
  have e2 := B_t hp.1
  have d1 : ((l.length : Int) == 0) = false := beq_eq_false_iff_ne.2 (by have := hp.2.1; omega)
  have HV := Lib.hid h
  have HP := Lib.hid hp
  have e1 := B_t hp.2.2.1
  have e3 := B_t hp.2.2.2
  obtain ⟨m1, m2⟩ := hp.2.2.2
  have hcall : Hid (∀ (k : Nat) (W : World), (k : Int) ≤ most → Below w.heap.size w W → Calls Try.prog 57 #[.int .i64 n, .slice A l.length c, .int .i64 low, .int .i64 high, .int .i64 (50 * (k : Int))] W fun e w' => e = .returned (.tuple #[.int .i64 (gapF n (50 * k) l low (high - low + 1).toNat).1, .int .i64 (gapF n (50 * k) l low (high - low + 1).toNat).2.1, .int .i64 (gapF n (50 * k) l low (high - low + 1).toNat).2.2]) ∧ Below W.heap.size W w') := Lib.hid (fun k W h1 hb =>
    l23Gap_any n low high (50 * k) l A c W ((h.below hb (Nat.le_refl _)).more hb.size) (fitBP_at hp h1))
  have hgb : Hid (∀ k : Nat, (k : Int) ≤ most → -1 ≤ (gapF n (50 * k) l low (high - low + 1).toNat).2.2 ∧ (gapF n (50 * k) l low (high - low + 1).toNat).2.2 ≤ 12000000000) := Lib.hid (fun k hk => by
    have hg := fitBP_at hp hk
    have hb := gapF_bd hg (high - low + 1).toNat (by have := hg.2.2.1.2.1; omega)
    omega)
  have hfb := Lib.hid (beatF_bd hp)
  have hgs : Hid (∀ k : Nat, beatF n low high l (k + 1) = if (beatF n low high l k).2 < 0 ∨ (gapF n (50 * k) l low (high - low + 1).toNat).2.2 < (beatF n low high l k).2 then (((gapF n (50 * k) l low (high - low + 1).toNat).1, (gapF n (50 * k) l low (high - low + 1).toNat).2.1, 50 * (k : Int)), (gapF n (50 * k) l low (high - low + 1).toNat).2.2) else beatF n low high l k) := Lib.hid (fun k => rfl)
  have hg0 : Hid (beatF n low high l 0 = ((0, 0, 0), -1)) := Lib.hid rfl
  generalize beatF n low high l = G at hfb hgs hg0 hbt ⊢
  have hb0 : Hid (Below w.heap.size w (w.alloc (.cells #[.int .i64 0, .int .i64 0, .int .i64 0] 31))) := Lib.hid ((Below.refl _ _).alloc (Nat.le_refl _) _)
  have HC0 := Lib.hid (bt_new w 31)
  clear h hp
  go_enter Try.func29, Try.ntmps29
  go_wp2_with (first | (go_at_call 39; refine (l23Good_any n l A c _ ((HV.out.below hb0.out (Nat.le_refl _)).more hb0.out.size) hl hc).mono ?_; rintro e w1 ⟨rfl, hb1⟩; have HC1 := Lib.hid (HC0.out.later hb1); have HB1 : Hid (Below w.heap.size w w1) := Lib.hid (hb0.out.trans (hb1.mono hb0.out.size)); clear hb1; have p_0 := HC1.out.cell (i := 0) (by omega); have p_1 := HC1.out.cell (i := 1) (by omega); have p_2 := HC1.out.cell (i := 2) (by omega); have pf0 := HC1.out.free (i := 0) (by omega); have pf1 := HC1.out.free (i := 1) (by omega); have pf2 := HC1.out.free (i := 2) (by omega); simp only [bt] at p_0 p_1 p_2) | (go_at_call 55; refine (l23Range_any _ _ _).mono ?_; rintro e w' ⟨rfl, rfl⟩) | (go_at_call 56; refine (l1In_any _ _ _ _).mono ?_; rintro e w' ⟨rfl, rfl⟩))
  clear p_0 p_1 p_2 pf0 pf1 pf2
  have HC3 : Hid (Cells (w1.alloc (.cells #[.int .i64 0, .int .i64 0, .int .i64 0] 31)) w1.heap.size 3 (bt (0, 0, 0))) := Lib.hid (bt_new w1 31)
  have HZ3 : Hid (Cells (w1.alloc (.cells #[.int .i64 0, .int .i64 0, .int .i64 0] 31)) w.heap.size 3 (bt (0, 0, 0))) := Lib.hid (HC1.out.later ((Below.refl _ _).alloc (Nat.le_refl _) _))
  have hw1 : w.heap.size < w1.heap.size := HC1.out.lt
  have HB3 : Hid (Below w.heap.size w (w1.alloc (.cells #[.int .i64 0, .int .i64 0, .int .i64 0] 31))) := Lib.hid (HB1.out.alloc (Nat.le_of_lt hw1) _)
  generalize (w1.alloc (.cells #[.int .i64 0, .int .i64 0, .int .i64 0] 31)) = w3 at *
  generalize w1.heap.size = g3 at *
  go_loopw [14, 15] (fun v i wr => ∃ k : Nat, (k : Int) ≤ most + 1 ∧ i = .int .i64 ((k : Int)) ∧ v = .int .i64 (G k).2 ∧ Hid (Cells wr g3 3 (bt (G k).1)) ∧ Hid (Cells wr w.heap.size 3 (bt (0, 0, 0))) ∧ Hid (Below w.heap.size w wr)) (fun _ i _ => (60 - intOf i).toNat)
  case atStart => exact ⟨0, by omega, by simp, by rw [hg0.out], Lib.hid (by rw [hg0.out]; exact HC3.out), HZ3, HB3⟩
  case round =>
    obtain ⟨k, hk, rfl, rfl, hcg, hcz, hbl⟩ := hrel
    have hgz := hbl.out.size
    have hgk := hfb.out k hk
    have hst := hgs.out k
    obtain ⟨t0, ht0⟩ : ∃ s, Hid ((G k).1 = s) := ⟨_, Lib.hid rfl⟩
    obtain ⟨b0, hb0'⟩ : ∃ s, Hid ((G k).2 = s) := ⟨_, Lib.hid rfl⟩
    rw [hb0'.out] at hgk hst
    rw [ht0.out] at hcg
    rw [hb0'.out]
    obtain ⟨a1, a2⟩ := hgk
    have Hst := Lib.hid hst
    clear hst
    by_cases hlt : (k : Int) ≤ most
    · have hc1 := hcall.out k wr hlt hbl.out
      obtain ⟨f1, f2⟩ := hgb.out k hlt
      generalize gapF n (50 * k) l low (high - low + 1).toNat = r at hc1 Hst f1 f2
      obtain ⟨rs, rg, rv⟩ := r
      simp only at hc1 f1 f2
      have Hc1 := Lib.hid hc1
      clear hc1
      by_cases c1 : b0 < 0 ∨ rv < b0
      · have Hst2 : Hid (G (k + 1) = ((rs, rg, 50 * (k : Int)), rv)) := Lib.hid (by rw [Hst.out, if_pos c1])
        clear Hst
        rcases c1 with c1 | c1
        all_goals
          try (have c2 : ¬ b0 < 0 := by omega)
          go_wp2_with (go_at_call 57; refine Hc1.out.mono ?_; rintro e w5 ⟨rfl, hb5⟩; have HC5 := Lib.hid (hcg.out.later hb5); have HZ5 := Lib.hid (hcz.out.later hb5); have HB5 : Hid (Below w.heap.size w w5) := Lib.hid (hbl.out.trans (hb5.mono hgz)); clear hb5; have p_0 := HC5.out.cell (i := 0) (by omega); have p_1 := HC5.out.cell (i := 1) (by omega); have p_2 := HC5.out.cell (i := 2) (by omega); have pf0 := HC5.out.free (i := 0) (by omega); have pf1 := HC5.out.free (i := 1) (by omega); have pf2 := HC5.out.free (i := 2) (by omega))
          go_roundw
          case rel => exact ⟨k + 1, by omega, by go_num, by rw [Hst2.out], Lib.hid (by rw [Hst2.out]; exact bt_set HC5.out _ _ _), Lib.hid (((HZ5.out.other (by simp; omega) _).other (by simp; omega) _).other (by simp; omega) _), Lib.hid (by repeat (first | exact HB5.out | refine Below.setCell ?_ (by first | exact Nat.le_refl _ | (simp; done) | (simp; omega)) _))⟩
          case measure => simp [intOf]; omega
      · have Hst2 : Hid (G (k + 1) = G k) := Lib.hid (by rw [Hst.out, if_neg c1])
        clear Hst
        have c2 : ¬ b0 < 0 := fun h => c1 (.inl h)
        have c3 : ¬ rv < b0 := fun h => c1 (.inr h)
        go_wp2_with (go_at_call 57; refine Hc1.out.mono ?_; rintro e w5 ⟨rfl, hb5⟩)
        go_roundw
        case rel => exact ⟨k + 1, by omega, by go_num, by rw [Hst2.out, hb0'.out], Lib.hid (by rw [Hst2.out, ht0.out]; exact hcg.out.later hb5), Lib.hid (hcz.out.later hb5), Lib.hid (hbl.out.trans (hb5.mono hgz))⟩
        case measure => simp [intOf]; omega
    · have hkk : k = (most + 1).toNat := by omega
      rw [← hkk, ht0.out] at hbt
      have Hkk := Lib.hid hkk
      obtain ⟨s0, g0, h0⟩ := t0
      have Hbt := Lib.hid hbt
      clear hbt hkk Hst
      have p_0 := hcg.out.cell (i := 0) (by omega)
      have p_1 := hcg.out.cell (i := 1) (by omega)
      have p_2 := hcg.out.cell (i := 2) (by omega)
      simp only [bt] at p_0 p_1 p_2
      go_wp2_with (go_at_call 32; refine (Hbt.out wr).mono ?_; rintro e w6 ⟨rfl, hb6⟩; have HC6 := Lib.hid (hcg.out.later hb6); have HZ6 := Lib.hid (hcz.out.later hb6); have HB6 : Hid (Below w.heap.size w w6) := Lib.hid (hbl.out.trans (hb6.mono hgz)); clear hb6; have q_0 := HC6.out.cell (i := 0) (by omega); have q_1 := HC6.out.cell (i := 1) (by omega); have q_2 := HC6.out.cell (i := 2) (by omega); simp only [bt] at q_0 q_1 q_2; have z_0 := HZ6.out.cell (i := 0) (by omega); have z_1 := HZ6.out.cell (i := 1) (by omega); have z_2 := HZ6.out.cell (i := 2) (by omega); have zf0 := HZ6.out.free (i := 0) (by omega); have zf1 := HZ6.out.free (i := 1) (by omega); have zf2 := HZ6.out.free (i := 2) (by omega))
      refine bodyPost_ret (v := .tuple #[.agg #[.int .i64 s0, .int .i64 g0, .int .i64 h0], .int .i64 b0, .bool true]) (by simp [results, Try.results29, go_sem, z_0, z_1, z_2, zf0, zf1, zf2]) rfl ⟨by first | rfl | rw [← Hkk.out, ht0.out, hb0'.out], ?_⟩
      repeat (first | exact HB6.out | refine Below.setCell ?_ (by first | exact Nat.le_refl _ | (simp; done) | (simp; omega)) _)
set_option maxHeartbeats 3200000 in
theorem sFitBeat_z (n low high most : Int) (l : List Blw) (A : Option Addr) (c : Nat) (w : World) (h : RdL w w.heap.size A 3 Blw.enc l) (hl : l.length ≤ 1048576) (hc : l.length ≤ c) (hp : fitBP n l low high most) (hbt : ∀ W, Calls Try.prog 32 #[.agg #[.int .i64 (beatF n low high l (most + 1).toNat).1.1, .int .i64 (beatF n low high l (most + 1).toNat).1.2.1, .int .i64 (beatF n low high l (most + 1).toNat).1.2.2]] W fun e w' => e = .returned (.bool false) ∧ Below W.heap.size W w') :
    Calls Try.prog 29 #[.int .i64 n, .slice A l.length c, .int .i64 low, .int .i64 high, .int .i64 most] w fun e w' => e = .returned (.tuple #[.agg #[.int .i64 0, .int .i64 0, .int .i64 0], .int .i64 0, .bool false]) ∧ Below w.heap.size w w' := by
  have e2 := B_t hp.1
  have d1 : ((l.length : Int) == 0) = false := beq_eq_false_iff_ne.2 (by have := hp.2.1; omega)
  have HV := Lib.hid h
  have HP := Lib.hid hp
  have e1 := B_t hp.2.2.1
  have e3 := B_t hp.2.2.2
  obtain ⟨m1, m2⟩ := hp.2.2.2
  have hcall : Hid (∀ (k : Nat) (W : World), (k : Int) ≤ most → Below w.heap.size w W → Calls Try.prog 57 #[.int .i64 n, .slice A l.length c, .int .i64 low, .int .i64 high, .int .i64 (50 * (k : Int))] W fun e w' => e = .returned (.tuple #[.int .i64 (gapF n (50 * k) l low (high - low + 1).toNat).1, .int .i64 (gapF n (50 * k) l low (high - low + 1).toNat).2.1, .int .i64 (gapF n (50 * k) l low (high - low + 1).toNat).2.2]) ∧ Below W.heap.size W w') := Lib.hid (fun k W h1 hb =>
    l23Gap_any n low high (50 * k) l A c W ((h.below hb (Nat.le_refl _)).more hb.size) (fitBP_at hp h1))
  have hgb : Hid (∀ k : Nat, (k : Int) ≤ most → -1 ≤ (gapF n (50 * k) l low (high - low + 1).toNat).2.2 ∧ (gapF n (50 * k) l low (high - low + 1).toNat).2.2 ≤ 12000000000) := Lib.hid (fun k hk => by
    have hg := fitBP_at hp hk
    have hb := gapF_bd hg (high - low + 1).toNat (by have := hg.2.2.1.2.1; omega)
    omega)
  have hfb := Lib.hid (beatF_bd hp)
  have hgs : Hid (∀ k : Nat, beatF n low high l (k + 1) = if (beatF n low high l k).2 < 0 ∨ (gapF n (50 * k) l low (high - low + 1).toNat).2.2 < (beatF n low high l k).2 then (((gapF n (50 * k) l low (high - low + 1).toNat).1, (gapF n (50 * k) l low (high - low + 1).toNat).2.1, 50 * (k : Int)), (gapF n (50 * k) l low (high - low + 1).toNat).2.2) else beatF n low high l k) := Lib.hid (fun k => rfl)
  have hg0 : Hid (beatF n low high l 0 = ((0, 0, 0), -1)) := Lib.hid rfl
  generalize beatF n low high l = G at hfb hgs hg0 hbt ⊢
  have hb0 : Hid (Below w.heap.size w (w.alloc (.cells #[.int .i64 0, .int .i64 0, .int .i64 0] 31))) := Lib.hid ((Below.refl _ _).alloc (Nat.le_refl _) _)
  have HC0 := Lib.hid (bt_new w 31)
  clear h hp
  go_enter Try.func29, Try.ntmps29
  go_wp2_with (first | (go_at_call 39; refine (l23Good_any n l A c _ ((HV.out.below hb0.out (Nat.le_refl _)).more hb0.out.size) hl hc).mono ?_; rintro e w1 ⟨rfl, hb1⟩; have HC1 := Lib.hid (HC0.out.later hb1); have HB1 : Hid (Below w.heap.size w w1) := Lib.hid (hb0.out.trans (hb1.mono hb0.out.size)); clear hb1; have p_0 := HC1.out.cell (i := 0) (by omega); have p_1 := HC1.out.cell (i := 1) (by omega); have p_2 := HC1.out.cell (i := 2) (by omega); have pf0 := HC1.out.free (i := 0) (by omega); have pf1 := HC1.out.free (i := 1) (by omega); have pf2 := HC1.out.free (i := 2) (by omega); simp only [bt] at p_0 p_1 p_2) | (go_at_call 55; refine (l23Range_any _ _ _).mono ?_; rintro e w' ⟨rfl, rfl⟩) | (go_at_call 56; refine (l1In_any _ _ _ _).mono ?_; rintro e w' ⟨rfl, rfl⟩))
  clear p_0 p_1 p_2 pf0 pf1 pf2
  have HC3 : Hid (Cells (w1.alloc (.cells #[.int .i64 0, .int .i64 0, .int .i64 0] 31)) w1.heap.size 3 (bt (0, 0, 0))) := Lib.hid (bt_new w1 31)
  have HZ3 : Hid (Cells (w1.alloc (.cells #[.int .i64 0, .int .i64 0, .int .i64 0] 31)) w.heap.size 3 (bt (0, 0, 0))) := Lib.hid (HC1.out.later ((Below.refl _ _).alloc (Nat.le_refl _) _))
  have hw1 : w.heap.size < w1.heap.size := HC1.out.lt
  have HB3 : Hid (Below w.heap.size w (w1.alloc (.cells #[.int .i64 0, .int .i64 0, .int .i64 0] 31))) := Lib.hid (HB1.out.alloc (Nat.le_of_lt hw1) _)
  generalize (w1.alloc (.cells #[.int .i64 0, .int .i64 0, .int .i64 0] 31)) = w3 at *
  generalize w1.heap.size = g3 at *
  go_loopw [14, 15] (fun v i wr => ∃ k : Nat, (k : Int) ≤ most + 1 ∧ i = .int .i64 ((k : Int)) ∧ v = .int .i64 (G k).2 ∧ Hid (Cells wr g3 3 (bt (G k).1)) ∧ Hid (Cells wr w.heap.size 3 (bt (0, 0, 0))) ∧ Hid (Below w.heap.size w wr)) (fun _ i _ => (60 - intOf i).toNat)
  case atStart => exact ⟨0, by omega, by simp, by rw [hg0.out], Lib.hid (by rw [hg0.out]; exact HC3.out), HZ3, HB3⟩
  case round =>
    obtain ⟨k, hk, rfl, rfl, hcg, hcz, hbl⟩ := hrel
    have hgz := hbl.out.size
    have hgk := hfb.out k hk
    have hst := hgs.out k
    obtain ⟨t0, ht0⟩ : ∃ s, Hid ((G k).1 = s) := ⟨_, Lib.hid rfl⟩
    obtain ⟨b0, hb0'⟩ : ∃ s, Hid ((G k).2 = s) := ⟨_, Lib.hid rfl⟩
    rw [hb0'.out] at hgk hst
    rw [ht0.out] at hcg
    rw [hb0'.out]
    obtain ⟨a1, a2⟩ := hgk
    have Hst := Lib.hid hst
    clear hst
    by_cases hlt : (k : Int) ≤ most
    · have hc1 := hcall.out k wr hlt hbl.out
      obtain ⟨f1, f2⟩ := hgb.out k hlt
      generalize gapF n (50 * k) l low (high - low + 1).toNat = r at hc1 Hst f1 f2
      obtain ⟨rs, rg, rv⟩ := r
      simp only at hc1 f1 f2
      have Hc1 := Lib.hid hc1
      clear hc1
      by_cases c1 : b0 < 0 ∨ rv < b0
      · have Hst2 : Hid (G (k + 1) = ((rs, rg, 50 * (k : Int)), rv)) := Lib.hid (by rw [Hst.out, if_pos c1])
        clear Hst
        rcases c1 with c1 | c1
        all_goals
          try (have c2 : ¬ b0 < 0 := by omega)
          go_wp2_with (go_at_call 57; refine Hc1.out.mono ?_; rintro e w5 ⟨rfl, hb5⟩; have HC5 := Lib.hid (hcg.out.later hb5); have HZ5 := Lib.hid (hcz.out.later hb5); have HB5 : Hid (Below w.heap.size w w5) := Lib.hid (hbl.out.trans (hb5.mono hgz)); clear hb5; have p_0 := HC5.out.cell (i := 0) (by omega); have p_1 := HC5.out.cell (i := 1) (by omega); have p_2 := HC5.out.cell (i := 2) (by omega); have pf0 := HC5.out.free (i := 0) (by omega); have pf1 := HC5.out.free (i := 1) (by omega); have pf2 := HC5.out.free (i := 2) (by omega))
          go_roundw
          case rel => exact ⟨k + 1, by omega, by go_num, by rw [Hst2.out], Lib.hid (by rw [Hst2.out]; exact bt_set HC5.out _ _ _), Lib.hid (((HZ5.out.other (by simp; omega) _).other (by simp; omega) _).other (by simp; omega) _), Lib.hid (by repeat (first | exact HB5.out | refine Below.setCell ?_ (by first | exact Nat.le_refl _ | (simp; done) | (simp; omega)) _))⟩
          case measure => simp [intOf]; omega
      · have Hst2 : Hid (G (k + 1) = G k) := Lib.hid (by rw [Hst.out, if_neg c1])
        clear Hst
        have c2 : ¬ b0 < 0 := fun h => c1 (.inl h)
        have c3 : ¬ rv < b0 := fun h => c1 (.inr h)
        go_wp2_with (go_at_call 57; refine Hc1.out.mono ?_; rintro e w5 ⟨rfl, hb5⟩)
        go_roundw
        case rel => exact ⟨k + 1, by omega, by go_num, by rw [Hst2.out, hb0'.out], Lib.hid (by rw [Hst2.out, ht0.out]; exact hcg.out.later hb5), Lib.hid (hcz.out.later hb5), Lib.hid (hbl.out.trans (hb5.mono hgz))⟩
        case measure => simp [intOf]; omega
    · have hkk : k = (most + 1).toNat := by omega
      rw [← hkk, ht0.out] at hbt
      have Hkk := Lib.hid hkk
      obtain ⟨s0, g0, h0⟩ := t0
      have Hbt := Lib.hid hbt
      clear hbt hkk Hst
      have p_0 := hcg.out.cell (i := 0) (by omega)
      have p_1 := hcg.out.cell (i := 1) (by omega)
      have p_2 := hcg.out.cell (i := 2) (by omega)
      simp only [bt] at p_0 p_1 p_2
      go_wp2_with (go_at_call 32; refine (Hbt.out wr).mono ?_; rintro e w6 ⟨rfl, hb6⟩; have HC6 := Lib.hid (hcg.out.later hb6); have HZ6 := Lib.hid (hcz.out.later hb6); have HB6 : Hid (Below w.heap.size w w6) := Lib.hid (hbl.out.trans (hb6.mono hgz)); clear hb6; have q_0 := HC6.out.cell (i := 0) (by omega); have q_1 := HC6.out.cell (i := 1) (by omega); have q_2 := HC6.out.cell (i := 2) (by omega); simp only [bt] at q_0 q_1 q_2; have z_0 := HZ6.out.cell (i := 0) (by omega); have z_1 := HZ6.out.cell (i := 1) (by omega); have z_2 := HZ6.out.cell (i := 2) (by omega); have zf0 := HZ6.out.free (i := 0) (by omega); have zf1 := HZ6.out.free (i := 1) (by omega); have zf2 := HZ6.out.free (i := 2) (by omega))
      refine bodyPost_ret (v := .tuple #[.agg #[.int .i64 0, .int .i64 0, .int .i64 0], .int .i64 0, .bool false]) (by simp [results, Try.results29, go_sem, z_0, z_1, z_2, zf0, zf1, zf2]) rfl ⟨by first | rfl | rw [← Hkk.out, ht0.out, hb0'.out], ?_⟩
      repeat (first | exact HB6.out | refine Below.setCell ?_ (by first | exact Nat.le_refl _ | (simp; done) | (simp; omega)) _)
set_option maxHeartbeats 800000 in
theorem sFitBeat_f (n low high most : Int) (l : List Blw) (A : Option Addr) (c : Nat) (w : World) (h : RdL w w.heap.size A 3 Blw.enc l) (hl : l.length ≤ 1048576) (hc : l.length ≤ c) (hp : ¬ fitBP n l low high most) :
    Calls Try.prog 29 #[.int .i64 n, .slice A l.length c, .int .i64 low, .int .i64 high, .int .i64 most] w fun e w' => e = .returned (.tuple #[.agg #[.int .i64 0, .int .i64 0, .int .i64 0], .int .i64 0, .bool false]) ∧ Below w.heap.size w w' := by
  have HV := Lib.hid h
  have hb0 : Hid (Below w.heap.size w (w.alloc (.cells #[.int .i64 0, .int .i64 0, .int .i64 0] 31))) := Lib.hid ((Below.refl _ _).alloc (Nat.le_refl _) _)
  have HC0 := Lib.hid (bt_new w 31)
  clear h
  by_cases h1 : blowsP n l
  rotate_left
  · have e1 := B_f h1
    clear hp h1
    go_enter Try.func29, Try.ntmps29
    go_wp2_with (first | (go_at_call 39; refine (l23Good_any n l A c _ ((HV.out.below hb0.out (Nat.le_refl _)).more hb0.out.size) hl hc).mono ?_; rintro e w1 ⟨rfl, hb1⟩; have HC1 := Lib.hid (HC0.out.later hb1); have HB1 : Hid (Below w.heap.size w w1) := Lib.hid (hb0.out.trans (hb1.mono hb0.out.size)); clear hb1; have p_0 := HC1.out.cell (i := 0) (by omega); have p_1 := HC1.out.cell (i := 1) (by omega); have p_2 := HC1.out.cell (i := 2) (by omega); have pf0 := HC1.out.free (i := 0) (by omega); have pf1 := HC1.out.free (i := 1) (by omega); have pf2 := HC1.out.free (i := 2) (by omega); simp only [bt] at p_0 p_1 p_2))
    refine bodyPost_ret (v := .tuple #[.agg #[.int .i64 0, .int .i64 0, .int .i64 0], .int .i64 0, .bool false]) (by simp [results, Try.results29, go_sem , p_0, p_1, p_2, pf0, pf1, pf2]) rfl ⟨rfl, ?_⟩
    repeat (first | exact Below.refl _ _ | exact HB1.out | refine Below.setCell ?_ (by first | exact Nat.le_refl _ | (simp; done) | (simp; omega)) _ | refine Below.alloc ?_ (by first | exact Nat.le_refl _ | (simp; done) | (simp; omega)) _)
  have e1 := B_t h1
  by_cases h2 : 0 < l.length
  rotate_left
  · have d1 : ((l.length : Int) == 0) = true := beq_iff_eq.2 (by omega)
    clear hp h1 h2
    go_enter Try.func29, Try.ntmps29
    go_wp2_with (first | (go_at_call 39; refine (l23Good_any n l A c _ ((HV.out.below hb0.out (Nat.le_refl _)).more hb0.out.size) hl hc).mono ?_; rintro e w1 ⟨rfl, hb1⟩; have HC1 := Lib.hid (HC0.out.later hb1); have HB1 : Hid (Below w.heap.size w w1) := Lib.hid (hb0.out.trans (hb1.mono hb0.out.size)); clear hb1; have p_0 := HC1.out.cell (i := 0) (by omega); have p_1 := HC1.out.cell (i := 1) (by omega); have p_2 := HC1.out.cell (i := 2) (by omega); have pf0 := HC1.out.free (i := 0) (by omega); have pf1 := HC1.out.free (i := 1) (by omega); have pf2 := HC1.out.free (i := 2) (by omega); simp only [bt] at p_0 p_1 p_2))
    refine bodyPost_ret (v := .tuple #[.agg #[.int .i64 0, .int .i64 0, .int .i64 0], .int .i64 0, .bool false]) (by simp [results, Try.results29, go_sem , p_0, p_1, p_2, pf0, pf1, pf2]) rfl ⟨rfl, ?_⟩
    repeat (first | exact Below.refl _ _ | exact HB1.out | refine Below.setCell ?_ (by first | exact Nat.le_refl _ | (simp; done) | (simp; omega)) _ | refine Below.alloc ?_ (by first | exact Nat.le_refl _ | (simp; done) | (simp; omega)) _)
  have d1 : ((l.length : Int) == 0) = false := beq_eq_false_iff_ne.2 (by omega)
  by_cases h3 : rangeP low high
  rotate_left
  · have e2 := B_f h3
    clear hp h1 h3
    go_enter Try.func29, Try.ntmps29
    go_wp2_with (first | (go_at_call 39; refine (l23Good_any n l A c _ ((HV.out.below hb0.out (Nat.le_refl _)).more hb0.out.size) hl hc).mono ?_; rintro e w1 ⟨rfl, hb1⟩; have HC1 := Lib.hid (HC0.out.later hb1); have HB1 : Hid (Below w.heap.size w w1) := Lib.hid (hb0.out.trans (hb1.mono hb0.out.size)); clear hb1; have p_0 := HC1.out.cell (i := 0) (by omega); have p_1 := HC1.out.cell (i := 1) (by omega); have p_2 := HC1.out.cell (i := 2) (by omega); have pf0 := HC1.out.free (i := 0) (by omega); have pf1 := HC1.out.free (i := 1) (by omega); have pf2 := HC1.out.free (i := 2) (by omega); simp only [bt] at p_0 p_1 p_2) | (go_at_call 55; refine (l23Range_any _ _ _).mono ?_; rintro e w' ⟨rfl, rfl⟩))
    refine bodyPost_ret (v := .tuple #[.agg #[.int .i64 0, .int .i64 0, .int .i64 0], .int .i64 0, .bool false]) (by simp [results, Try.results29, go_sem , p_0, p_1, p_2, pf0, pf1, pf2]) rfl ⟨rfl, ?_⟩
    repeat (first | exact Below.refl _ _ | exact HB1.out | refine Below.setCell ?_ (by first | exact Nat.le_refl _ | (simp; done) | (simp; omega)) _ | refine Below.alloc ?_ (by first | exact Nat.le_refl _ | (simp; done) | (simp; omega)) _)
  have e2 := B_t h3
  have e3 := B_f (fun h4 => hp ⟨h1, h2, h3, h4⟩)
  clear hp h1 h3
  go_enter Try.func29, Try.ntmps29
  go_wp2_with (first | (go_at_call 39; refine (l23Good_any n l A c _ ((HV.out.below hb0.out (Nat.le_refl _)).more hb0.out.size) hl hc).mono ?_; rintro e w1 ⟨rfl, hb1⟩; have HC1 := Lib.hid (HC0.out.later hb1); have HB1 : Hid (Below w.heap.size w w1) := Lib.hid (hb0.out.trans (hb1.mono hb0.out.size)); clear hb1; have p_0 := HC1.out.cell (i := 0) (by omega); have p_1 := HC1.out.cell (i := 1) (by omega); have p_2 := HC1.out.cell (i := 2) (by omega); have pf0 := HC1.out.free (i := 0) (by omega); have pf1 := HC1.out.free (i := 1) (by omega); have pf2 := HC1.out.free (i := 2) (by omega); simp only [bt] at p_0 p_1 p_2) | (go_at_call 55; refine (l23Range_any _ _ _).mono ?_; rintro e w' ⟨rfl, rfl⟩) | (go_at_call 56; refine (l1In_any _ _ _ _).mono ?_; rintro e w' ⟨rfl, rfl⟩))
  refine bodyPost_ret (v := .tuple #[.agg #[.int .i64 0, .int .i64 0, .int .i64 0], .int .i64 0, .bool false]) (by simp [results, Try.results29, go_sem , p_0, p_1, p_2, pf0, pf1, pf2]) rfl ⟨rfl, ?_⟩
  repeat (first | exact Below.refl _ _ | exact HB1.out | refine Below.setCell ?_ (by first | exact Nat.le_refl _ | (simp; done) | (simp; omega)) _ | refine Below.alloc ?_ (by first | exact Nat.le_refl _ | (simp; done) | (simp; omega)) _)




end Go.Proofs.Ytkegbbndmfnolaa
