import Derived.Test.YtbfhfnejppfehaaMSlipsL27
import Derived.Test.YtbfhfnejppfehaaMSlipsL32
/-
  The drawn arguments of FirstSlip and SlipsOf.
-/
namespace Go.Proofs.Ytbfhfnejppfehaa
open Go.RowKit
set_option linter.unusedVariables false
set_option linter.unusedSimpArgs false
set_option maxRecDepth 100000



theorem rw_small {l : List ByteArray} (h : ∀ r ∈ l, r.size ≤ 8) : ∀ x ∈ l, String_small 1048576 x := fun x hx => by have := h x hx; unfold String_small; omega

set_option maxHeartbeats 1600000 in
theorem drawFirstSlip_any (A : Option Addr) (c : Nat) (l : List Int) (w : World) (h : RdL w w.heap.size A 1 encByte l) (hb : ∀ x ∈ l, 0 ≤ x ∧ x < 256) (hl : l.length ≤ 9223372036854775807) :
    Calls Try.prog 12 #[.slice A l.length c] w fun e w' => ∃ (a : List ByteArray) (A1 : Option Addr) (c1 : Nat) (b : List ByteArray) (A2 : Option Addr) (c2 : Nat), e = .returned (.tuple #[.slice A1 a.length c1, .slice A2 b.length c2]) ∧ RwOk a c1 ∧ (b.length ≤ 12 ∧ ∀ r ∈ b, r.size ≤ 8) ∧ RdL w' w'.heap.size A1 1 encString a ∧ RdL w' w'.heap.size A2 1 encString b ∧ Below w.heap.size w w' := by
  have HD := Lib.hid (drawGoodSlips_any A c l w h hb hl)
  have H := Lib.hid h
  have Hb := Lib.hid hb
  clear h hb
  go_enter Try.func12, Try.ntmps12
  go_upto_region 2 with (go_at_call 59; refine HD.out.mono ?_; rintro e w1 ⟨rows, A1, c1, f, A2, c2, rfl, h1, h2, h3, h4, h5⟩; have H1 := Lib.hid h1; have H2 := Lib.hid h2; have H3 := Lib.hid h3; have H4 := Lib.hid h4; have H5 := Lib.hid h5; clear h1 h2 h3 h4 h5)
  have hl12 := H1.out.1
  have hf21 := H2.out.1
  obtain ⟨V, hVe, hVb, HCV, hVs⟩ : ∃ V : World, Hid (w1.alloc (.cells #[.slice A l.length c, .int .i64 0, .int .u64 0] 80) = V) ∧ Hid (Below w1.heap.size w1 V) ∧ Hid (Cur V w1.heap.size 0) ∧ w1.heap.size + 1 ≤ V.heap.size :=
    ⟨_, Lib.hid rfl, Lib.hid ((Below.refl _ _).alloc (Nat.le_refl _) _), Lib.hid (Cur.new (c := c) ((H.out.below H5.out (Nat.le_refl _)).more H5.out.size) Hb.out (Nat.le_trans hl (by omega)) 80), by simp⟩
  obtain ⟨g, hg⟩ : ∃ g, Hid (w1.heap.size = g) := ⟨_, Lib.hid rfl⟩
  obtain ⟨P, hP⟩ : ∃ P, Hid (rungR rows f = P) := ⟨_, Lib.hid rfl⟩
  have hPl : Hid (P.1.length ≤ rows.length ∧ ∀ r ∈ P.1, r.size ≤ 8) := Lib.hid (by rw [← hP.out]; exact ⟨rungR_len _ _, rungR_small⟩)
  have HRg : Hid (∀ W, Below w1.heap.size w1 W → Calls Try.prog 11 #[.slice A1 rows.length c1, .slice A2 f.length c2] W fun e w' => ∃ A2 c2, e = .returned (.tuple #[.slice A2 P.1.length c2, .bool P.2]) ∧ Aw w' W.heap.size A2 1 encString P.1 ∧ Below W.heap.size W w') := Lib.hid fun W hb => by
    have := sRung_r rows f A1 A2 c1 c2 W ((H3.out.below hb (Nat.le_refl _)).more hb.size) ((H4.out.below hb (Nat.le_refl _)).more hb.size) (by omega) (by omega) (rw_small H1.out.2.2)
    rw [hP.out] at this; exact this
  obtain ⟨RG, ok⟩ := P
  simp only at hPl HRg
  have HRV : Hid (RdL V g A1 1 encString rows) := Lib.hid (by rw [← hg.out]; exact H3.out.below hVb.out (Nat.le_refl _))
  have HBV := Lib.hid (H5.out.trans (hVb.out.mono H5.out.size))
  have hz5 := H5.out.size
  have hwg : w.heap.size ≤ g := by have := hg.out; omega
  rw [hg.out] at hVs HCV
  go_upto_region 3 with fail
  rw [hVe.out, hg.out]
  clear hVe
  cases ok
  · go_upto_region 6 with (go_at_call 11; refine (HRg.out V hVb.out).mono ?_; rintro e w4 ⟨A4, c4, rfl, ha4, hb4⟩; have HC4 := Lib.hid (HCV.out.later hb4); have HT4 := Lib.hid (Turn.of (g := g) hb4); have hz4 := hb4.size; clear ha4 hb4)
    go_wp2_with (first
      | (go_at_call 49; refine (stage_any g (0) w4 HC4.out (by omega)).mono ?_; rintro e w6 ⟨n, rfl, ⟨hn3, hn8⟩, hc6, ht6⟩; have HC6 := Lib.hid hc6; have HT6 := Lib.hid (HT4.out.trans ht6); have hz6 := ht6.size; clear hc6 ht6; obtain ⟨n, rfl⟩ : ∃ m : Nat, n = (m : Int) := ⟨n.toNat, by omega⟩)
      | (go_at_call 61; refine (rowsOf_any g (0 + 2) n 6 w6 HC6.out (by omega) (by omega) (by omega) (by omega)).mono ?_; rintro e w7 ⟨b, A3, c3, rfl, hb6, hbc, hbP, hob, hc7, ht7⟩; have HOb := Lib.hid hob; have HbP := Lib.hid hbP; have HT7 := Lib.hid (HT6.out.trans ht7); clear hob hbP hc7 ht7))
    have hzV := HT7.out.size
    go_ret2
    exact ⟨rows, A1, c1, b, A3, c3, rfl, H1.out, ⟨by omega, HbP.out⟩, (HRV.out.chg (by omega) HT7.out (Nat.le_refl _)).more (by omega), HOb.out.rd encString_len, Below.chg HBV.out HT7.out (by omega) (by omega)⟩
  · go_upto_region 6 with (first
      | (go_at_call 11; refine (HRg.out V hVb.out).mono ?_; rintro e w4 ⟨A4, c4, rfl, ha4, hb4⟩; have HA4 := Lib.hid (ha4.weak hVs); have HC4 := Lib.hid (HCV.out.later hb4); have HT4 := Lib.hid (Turn.of (g := g) hb4); have hz4 := hb4.size; clear ha4 hb4)
      | (go_at_call 48; refine (one_any g 0 9 w4 HC4.out (by omega) (by omega)).mono ?_; rintro e w5 ⟨b5, rfl, hc5, ht5⟩; have HC5 := Lib.hid hc5; have HT5 := Lib.hid (HT4.out.trans ht5); have hz5' := ht5.size; have HA5 := Lib.hid (HA4.out.turn ht5 (Nat.lt_succ_self _)); clear hc5 ht5; cases b5))
    · have hzV := HT5.out.size
      go_ret2
      exact ⟨rows, A1, c1, RG, A4, c4, rfl, H1.out, ⟨by have := hPl.out.1; omega, hPl.out.2⟩, (HRV.out.chg (by omega) HT5.out (Nat.le_refl _)).more (by omega), HA5.out.1, Below.chg HBV.out HT5.out (by omega) (by omega)⟩
    · go_wp2_with (first
        | (go_at_call 49; refine (stage_any g (2) w5 HC5.out (by omega)).mono ?_; rintro e w6 ⟨n, rfl, ⟨hn3, hn8⟩, hc6, ht6⟩; have HC6 := Lib.hid hc6; have HT6 := Lib.hid (HT5.out.trans ht6); have hz6 := ht6.size; clear hc6 ht6; obtain ⟨n, rfl⟩ : ∃ m : Nat, n = (m : Int) := ⟨n.toNat, by omega⟩)
        | (go_at_call 61; refine (rowsOf_any g (2 + 2) n 6 w6 HC6.out (by omega) (by omega) (by omega) (by omega)).mono ?_; rintro e w7 ⟨b, A3, c3, rfl, hb6, hbc, hbP, hob, hc7, ht7⟩; have HOb := Lib.hid hob; have HbP := Lib.hid hbP; have HT7 := Lib.hid (HT6.out.trans ht7); clear hob hbP hc7 ht7))
      have hzV := HT7.out.size
      go_ret2
      exact ⟨rows, A1, c1, b, A3, c3, rfl, H1.out, ⟨by omega, HbP.out⟩, (HRV.out.chg (by omega) HT7.out (Nat.le_refl _)).more (by omega), HOb.out.rd encString_len, Below.chg HBV.out HT7.out (by omega) (by omega)⟩

set_option maxHeartbeats 1600000 in
theorem drawSlipsOf_any (A : Option Addr) (c : Nat) (l : List Int) (w : World) (h : RdL w w.heap.size A 1 encByte l) (hb : ∀ x ∈ l, 0 ≤ x ∧ x < 256) (hl : l.length ≤ 9223372036854775807) :
    Calls Try.prog 6 #[.slice A l.length c] w fun e w' => ∃ (a : List ByteArray) (A1 : Option Addr) (c1 : Nat) (b : List ByteArray) (A2 : Option Addr) (c2 : Nat), e = .returned (.tuple #[.slice A1 a.length c1, .slice A2 b.length c2]) ∧ RwOk a c1 ∧ (b.length ≤ 12 ∧ ∀ r ∈ b, r.size ≤ 8) ∧ RdL w' w'.heap.size A1 1 encString a ∧ RdL w' w'.heap.size A2 1 encString b ∧ Below w.heap.size w w' := by
  have HDF : Hid (∀ W, Below w.heap.size w W → Calls Try.prog 12 #[.slice A l.length c] W fun e w' => ∃ (a : List ByteArray) (A1 : Option Addr) (c1 : Nat) (b : List ByteArray) (A2 : Option Addr) (c2 : Nat), e = .returned (.tuple #[.slice A1 a.length c1, .slice A2 b.length c2]) ∧ RwOk a c1 ∧ (b.length ≤ 12 ∧ ∀ r ∈ b, r.size ≤ 8) ∧ RdL w' w'.heap.size A1 1 encString a ∧ RdL w' w'.heap.size A2 1 encString b ∧ Below W.heap.size W w') := Lib.hid fun W hw => drawFirstSlip_any A c l W ((h.below hw (Nat.le_refl _)).more hw.size) hb hl
  have Hone : Hid (∀ x : ByteArray, ∀ u ∈ [Value.string x], u.oneCell' = true) := Lib.hid (by intro x u hu; simp at hu; subst hu; rfl)
  obtain ⟨V, hVe, hVb, HCV, hVs⟩ : ∃ V : World, Hid (w.alloc (.cells #[.slice A l.length c, .int .i64 0, .int .u64 0] 80) = V) ∧ Hid (Below w.heap.size w V) ∧ Hid (Cur V w.heap.size 0) ∧ w.heap.size + 1 ≤ V.heap.size :=
    ⟨_, Lib.hid rfl, Lib.hid ((Below.refl _ _).alloc (Nat.le_refl _) _), Lib.hid (Cur.new (c := c) h hb (Nat.le_trans hl (by omega)) 80), by simp⟩
  clear h hb
  obtain ⟨g, hg⟩ : ∃ g, Hid (w.heap.size = g) := ⟨_, Lib.hid rfl⟩
  have hwg : w.heap.size ≤ g := Nat.le_of_eq hg.out
  go_enter Try.func6, Try.ntmps6
  go_upto_region 2 with fail
  rw [hVe.out, hg.out]
  rw [hg.out] at HCV hVs
  clear hVe
  obtain ⟨g0, hg0⟩ : ∃ g0, Hid (V.heap.size = g0) := ⟨_, Lib.hid rfl⟩
  have hgg0 : g < g0 := by have := hg0.out; omega
  have hg0V : g0 ≤ V.heap.size := Nat.le_of_eq hg0.out.symm
  have hg0W : V.heap.size ≤ g0 := Nat.le_of_eq hg0.out
  go_upto_region 6 with (first
    | (go_at_call 48; refine (one_any g 0 6 V HCV.out (by omega) (by omega)).mono ?_; rintro e w1 ⟨b1, rfl, hc1, ht1⟩; have HC1 := Lib.hid hc1; have HT1 := Lib.hid ht1; have hz1 := ht1.size; clear hc1 ht1; cases b1)
    | (go_at_call 12; refine (HDF.out w1 (Below.chg hVb.out HT1.out hwg (by omega))).mono ?_; rintro e w2 ⟨a, A1, c1, b, A2, c2, rfl, h1, h2, h3, h4, h5⟩; have H1 := Lib.hid h1; have H2 := Lib.hid h2; have H3 := Lib.hid h3; have H4 := Lib.hid h4; have H5 := Lib.hid h5; clear h1 h2 h3 h4 h5)
    | (go_at_call 49; refine (stage_any g 2 w1 HC1.out (by omega)).mono ?_; rintro e w2 ⟨n, rfl, ⟨hn3, hn8⟩, hc2, ht2⟩; have HC2 := Lib.hid hc2; have HT2 := Lib.hid (HT1.out.trans ht2); have hz2 := ht2.size; clear hc2 ht2; obtain ⟨n, rfl⟩ : ∃ m : Nat, n = (m : Int) := ⟨n.toNat, by omega⟩)
    | (go_at_call 50; refine (pick_any g 4 5 w2 HC2.out (by omega) (by omega)).mono ?_; rintro e w3 ⟨x, rfl, hx0, hx1, hc3, ht3⟩; have HC3 := Lib.hid hc3; have HT3 := Lib.hid (HT2.out.trans ht3); have hz3 := ht3.size; clear hc3 ht3; obtain ⟨q, rfl⟩ : ∃ q : Nat, x = (q : Int) := ⟨x.toNat, by omega⟩))
  · go_ret2
    have hBw := Below.chg hVb.out HT1.out hwg (by omega)
    exact ⟨a, A1, c1, b, A2, c2, rfl, H1.out, H2.out, H3.out, H4.out, hBw.trans (H5.out.mono hBw.size)⟩
  · go_loopw [6, 7, 8] (fun p r i wr => ∃ (j : Nat) (a b : List ByteArray), i = .int .i64 (j : Int) ∧ a.length + j ≤ 5 ∧ b.length = a.length ∧ Hid (∀ s ∈ a, s.size ≤ 8) ∧ Hid (∀ s ∈ b, s.size ≤ 8) ∧ Grow wr g0 9 1 encString p a ∧ Grow wr g0 9 1 encString r b ∧ Apart p r ∧ Cur wr g (6 + 4 * a.length) ∧ Turn g V wr) (fun _ _ i _ => (intOf i).toNat)
    case atStart => exact ⟨q + 1, [], [], by go_num, by simp; omega, rfl, Lib.hid (by simp), Lib.hid (by simp), Grow.nil, Grow.nil, fun g hg => by simp [Value.ownBlock] at hg, HC3.out.more (by omega), HT3.out⟩
    case round =>
      obtain ⟨j, a, b, rfl, hj, hba, hPa, hPb, hga, hgb, hap, hcu, htu⟩ := hrel
      have HGa := Lib.hid hga
      have HGb := Lib.hid hgb
      have HAp := Lib.hid hap
      have HCu := Lib.hid hcu
      have HTu := Lib.hid htu
      have hsz := htu.size
      have Hba := Lib.hid hba
      have ha5 : a.length ≤ 5 := by omega
      have hb5 : b.length ≤ 5 := by omega
      clear hga hgb hap hcu htu hba
      by_cases hlt : 0 < j
      · go_wp2_with (first
          | (go_at_call 51; refine (row_any g _ n wr HCu.out (by omega) (by omega) (by omega)).mono ?_; rintro e w4 ⟨s, rfl, hs, hc4, ht4⟩; have Hs := Lib.hid hs; have HC4 := Lib.hid hc4; have HT4 := Lib.hid (HTu.out.trans ht4); have hz4 := ht4.size; have HGa4 := Lib.hid (HGa.out.turn ht4 hgg0); have HGb4 := Lib.hid (HGb.out.turn ht4 hgg0); clear hs hc4 ht4)
          | ((at_builtin; refine wpList_pushA rfl (.tmp 23) (.tmp 27) 23 rfl g0 9 _ 1 16 encString rfl String_info rfl (by omega) u6 a [s] 1 rfl rfl (by simp) HGa4.out rfl encString_len (Hone.out s) (by simp only [List.length_singleton]; omega) (by omega) (by omega) ?_; intro av aw ag ab agb ak); have HGa5 := Lib.hid ag; have HGb5 := Lib.hid (HGb4.out.keptBy agb HAp.out.swap); have HA5 := Lib.hid (HAp.out.grow HGb4.out.block_lt ak); have HB5 := Lib.hid ab; have HC5 := Lib.hid (HC4.out.keep ab hgg0); have hz5 := ab.size; clear ag ab agb ak)
          | (go_at_call 51; refine (row_any g _ n aw HC5.out (by omega) (by omega) (by omega)).mono ?_; rintro e w6 ⟨t, rfl, hs, hc6, ht6⟩; have Ht := Lib.hid hs; have HC6 := Lib.hid hc6; have HT6 := Lib.hid ((HT4.out.thenB (HB5.out.mono hg0W)).trans ht6); have hz6 := ht6.size; have HGa6 := Lib.hid (HGa5.out.turn ht6 hgg0); have HGb6 := Lib.hid (HGb5.out.turn ht6 hgg0); clear hs hc6 ht6)
          | (at_builtin; refine wpList_pushA rfl (.tmp 29) (.tmp 33) 23 rfl g0 9 _ 1 16 encString rfl String_info rfl (by omega) u7 b [t] 1 rfl rfl (by simp) HGb6.out rfl encString_len (Hone.out t) (by simp only [List.length_singleton]; omega) (by omega) (by omega) ?_; intro bv bw bg bb bgb bk))
        have HBg := Lib.hid bg
        have HAq := Lib.hid ((HA5.out.swap.grow HGa6.out.block_lt bk).swap)
        have HGa7 := Lib.hid (HGa6.out.keptBy bgb HA5.out)
        have HC7 := Lib.hid (HC6.out.keep bb hgg0)
        have HT7 := Lib.hid (HT6.out.thenB (bb.mono hg0W))
        clear bg bb bgb bk
        go_roundw
        case rel => exact ⟨j - 1, a ++ [s], b ++ [t], by go_num, by simp; omega, (by have := Hba.out; simp; omega), Lib.hid (fun x hx => by
          rcases List.mem_append.1 hx with hx | hx
          · exact hPa.out x hx
          · rw [List.mem_singleton.1 hx]; have := Hs.out; omega), Lib.hid (fun x hx => by
          rcases List.mem_append.1 hx with hx | hx
          · exact hPb.out x hx
          · rw [List.mem_singleton.1 hx]; have := Ht.out; omega), HGa7.out, HBg.out, HAq.out, HC7.out.more (by simp; omega), HT7.out⟩
        case measure => simp [intOf]; omega
      · obtain rfl : j = 0 := by omega
        obtain ⟨Aa, ca, hva, hoa⟩ := HGa.out.own encString_len
        obtain ⟨Ab, cb, hvb, hob⟩ := HGb.out.own encString_len
        subst hva
        subst hvb
        have hcap := HGa.out.capN'
        have HOa := Lib.hid hoa
        have HOb := Lib.hid hob
        clear hoa hob
        go_wp2
        go_ret2
        exact ⟨a, Aa, ca, b, Ab, cb, rfl, ⟨by omega, hcap, hPa.out⟩, ⟨by omega, hPb.out⟩, HOa.out.rd encString_len, HOb.out.rd encString_len, Below.chg hVb.out HTu.out hwg (by omega)⟩
end Go.Proofs.Ytbfhfnejppfehaa
