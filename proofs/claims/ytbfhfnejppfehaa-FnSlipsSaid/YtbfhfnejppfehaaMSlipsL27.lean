import Derived.Test.YtbfhfnejppfehaaMSlipsL22
import Derived.Test.YtbfhfnejppfehaaMSlipsL26
/-
  Drawn faults; the drawn arguments of the functions of faults.
-/
namespace Go.Proofs.Ytbfhfnejppfehaa
open Go.RowKit
set_option linter.unusedVariables false
set_option linter.unusedSimpArgs false
set_option maxRecDepth 100000

/-- Small faults. -/
def slOk (s : Slp) : Prop := (-1 ≤ s.row ∧ s.row ≤ 20) ∧ (0 ≤ s.a ∧ s.a ≤ 20) ∧ (0 ≤ s.b ∧ s.b ≤ 20)
theorem l1LeastE_any (x y : Int) (w : World) : Calls Try.prog 102 #[.int .i64 x, .int .i64 y] w fun e w' => ∃ t, e = .returned (.int .i64 t) ∧ (t = x ∨ t = y) ∧ t ≤ y ∧ t ≤ x ∧ w = w' := by
  refine (l1LeastD_any x y w).mono ?_
  rintro e w' ⟨rfl, rfl⟩
  by_cases h : x < y
  · exact ⟨x, by rw [if_pos h], .inl rfl, by omega, by omega, rfl⟩
  · exact ⟨y, by rw [if_neg h], .inr rfl, by omega, by omega, rfl⟩



set_option maxHeartbeats 3200000 in
theorem faults_any (g K : Nat) (l : List ByteArray) (A : Option Addr) (c : Nat) (w : World) (h : Cur w g K) (hK : K ≤ 1000000) (ha : Aw w (g + 1) A 1 encString l) (hl : l.length ≤ 12) (hs : ∀ r ∈ l, r.size ≤ 8) :
    Calls Try.prog 105 #[.pointer (some ⟨g, 0, none⟩), .slice A l.length c] w fun e w' => ∃ (f : List Slp) (A2 : Option Addr) (c2 : Nat), e = .returned (.slice A2 f.length c2) ∧ f.length ≤ 21 ∧ (∀ s ∈ f, slOk s) ∧ OwnL w' w.heap.size w'.heap.size A2 3 Slp.enc f ∧ Cur w' g (K + 200) ∧ Turn g w w' := by
  have H := Lib.hid h
  have hgw := h.lt
  obtain ⟨z, hz8, hcz⟩ : ∃ z : Nat, z ≤ 8 ∧ Hid (0 < l.length → ∃ (ga off : Nat) (r : ByteArray), A = some ⟨ga, off, none⟩ ∧ ga ≠ g ∧ ga < w.heap.size ∧ w.cell? ⟨ga, off, none⟩ = some (.string r) ∧ r.size = z) := by
    by_cases hl0 : 0 < l.length
    · obtain ⟨ga, off, hA, hg, hcell⟩ := ha.1.at hl0
      have h0 := hcell 0 _ rfl
      rw [Nat.zero_mul, Nat.add_zero] at h0
      refine ⟨l[0].size, hs _ (List.getElem_mem hl0), Lib.hid fun _ => ⟨ga, off, l[0], hA, ?_, hg, h0, rfl⟩⟩
      rcases ha.2 with e | ⟨q, o, hq, hlo⟩
      · rw [e] at hl0; simp at hl0
      · rw [hA] at hq; injection hq with hq; injection hq with hq _ _; omega
    · exact ⟨0, by omega, Lib.hid fun e => absurd e hl0⟩
  clear h ha hs
  by_cases hl0 : 0 < l.length
  · obtain ⟨ga, off, r0, hA, hne, hgl, hc0, hrz⟩ := hcz.out hl0
    subst hA
    have hr8 : r0.size ≤ 8 := by omega
    clear hcz hrz
    have HC0 := Lib.hid hc0
    clear hc0
    have HLe := Lib.hid l1LeastE_any
    go_enter Try.func105, Try.ntmps105
    go_upto_region 4 with (go_at_call 50; refine (pick_any g (K) _ w H.out (by omega) (by omega)).mono ?_; rintro e w1 ⟨x, rfl, h0x, h1x, hcx, htx⟩; have HCx := Lib.hid hcx; have HTx := Lib.hid ((Lib.hid (Chg.refl g (g + 1) w)).out.trans htx); have hzx := htx.size; obtain ⟨q, rfl⟩ : ∃ q : Nat, x = (q : Int) := ⟨x.toNat, by omega⟩; clear hcx htx)
    go_loopw [5, 6, 7] (fun v t i wr => ∃ (j : Nat) (a : Int) (f : List Slp), i = .int .i64 (j : Int) ∧ t = .int .i64 a ∧ 0 ≤ a ∧ a ≤ 12 ∧ f.length + j ≤ 5 ∧ Hid (∀ s ∈ f, slOk s) ∧ Grow wr w.heap.size 43 3 Slp.enc v f ∧ Cur wr g (K + 2 + 6 * f.length) ∧ Turn g w wr) (fun _ _ i _ => (intOf i).toNat)
    case atStart => exact ⟨q, 0, [], by rfl, by rfl, by omega, by omega, by simp; omega, Lib.hid (by simp), Grow.nil, HCx.out.more (by omega), HTx.out⟩
    case round =>
      obtain ⟨j, a, f, rfl, rfl, ha0, ha12, hfj, hP, hgr, hcu, htu⟩ := hrel
      have HG := Lib.hid hgr
      have HCu := Lib.hid hcu
      have HTu := Lib.hid htu
      have hzr := htu.size
      have hf5 : f.length ≤ 5 := by omega
      clear hgr hcu htu
      have rc := (HTu.out.cell (p := ⟨ga, off, none⟩) hgl hne).trans HC0.out
      by_cases hlt : 0 < j
      · go_wp2_with (first
          | (go_at_call 50; refine (pick_any g (K + 2 + 6 * f.length) _ wr HCu.out (by omega) (by omega)).mono ?_; rintro e w2 ⟨x2, rfl, h0x2, h1x2, hcx2, htx2⟩; have HCx2 := Lib.hid hcx2; have HTx2 := Lib.hid (HTu.out.trans htx2); have hzx2 := htx2.size; have HG2 := Lib.hid (HG.out.turn htx2 hgw); clear hcx2 htx2)
          | (go_at_call 102; refine (HLe.out _ _ _).mono ?_; rintro e w' ⟨t3, rfl, ht3, ht3y, ht3x, rfl⟩; have rc2 := (HTx2.out.cell (p := ⟨ga, off, none⟩) hgl hne).trans HC0.out)
          | (go_at_call 50; refine (pick_any g (K + 2 + 6 * f.length + 2) _ w2 HCx2.out (by omega) (by omega)).mono ?_; rintro e w4 ⟨x4, rfl, h0x4, h1x4, hcx4, htx4⟩; have HCx4 := Lib.hid hcx4; have HTx4 := Lib.hid (HTx2.out.trans htx4); have hzx4 := htx4.size; (have rc4 := (HTx4.out.cell (p := ⟨ga, off, none⟩) hgl hne).trans HC0.out; have HG4 := Lib.hid (HG2.out.turn htx4 hgw)); clear hcx4 htx4)
          | (go_at_call 50; refine (pick_any g (K + 2 + 6 * f.length + 2 + 2) _ w4 HCx4.out (by omega) (by omega)).mono ?_; rintro e w5 ⟨x5, rfl, h0x5, h1x5, hcx5, htx5⟩; have HCx5 := Lib.hid hcx5; have HTx5 := Lib.hid (HTx4.out.trans htx5); have hzx5 := htx5.size; have HG5 := Lib.hid (HG4.out.turn htx5 hgw); clear hcx5 htx5)
          | (at_builtin; refine wpList_pushA rfl (.tmp 49) (.tmp 54) 26 rfl w.heap.size 43 _ 3 24 Slp.enc rfl Slip_info rfl (by omega) _ f [⟨t3, 1 + x4, 1 + x4 + 1 + x5⟩] 1 rfl rfl (by simp) HG5.out rfl Slp_enc_len (by simp [Value.oneCell']) (by simp only [List.length_singleton]; omega) (by omega) (by omega) ?_; intro v6 w6 g6 b6 gb6 k6; have HG6 := Lib.hid g6; have HB6 := Lib.hid b6; clear g6 b6 gb6 k6))
        go_roundw
        case rel => exact ⟨j - 1, t3, f ++ [⟨t3, 1 + x4, 1 + x4 + 1 + x5⟩], by go_num, by rfl, by rcases ht3 with e | e <;> omega, by omega, by simp; omega, Lib.hid (fun s hs => by
          rcases List.mem_append.1 hs with hs | hs
          · exact hP.out s hs
          · rw [List.mem_singleton.1 hs]; exact ⟨⟨by rcases ht3 with e | e <;> simp only <;> omega, by simp only; omega⟩, ⟨by simp only; omega, by simp only; omega⟩, ⟨by simp only; omega, by simp only; omega⟩⟩), HG6.out, (HCx5.out.keep HB6.out hgw).more (by simp; omega), HTx5.out.thenB HB6.out⟩
        case measure => simp [intOf]; omega
      · obtain rfl : j = 0 := by omega
        go_upto_region 11 with (go_at_call 50; refine (pick_any g (K + 2 + 6 * f.length) _ wr HCu.out (by omega) (by omega)).mono ?_; rintro e w7 ⟨y, rfl, h0y, h1y, hcy, hty⟩; have HCy := Lib.hid hcy; have HTy := Lib.hid (HTu.out.trans hty); have hzy := hty.size; have HG7 := Lib.hid (HG.out.turn hty hgw); clear hcy hty)
        by_cases y0 : y = 0
        · subst y0
          go_wp2_with (first
            | (go_at_call 50; refine (pick_any g (K + 2 + 6 * f.length + 2) _ w7 HCy.out (by omega) (by omega)).mono ?_; rintro e w8 ⟨y8, rfl, h0y8, h1y8, hcy8, hty8⟩; have HCy8 := Lib.hid hcy8; have HTy8 := Lib.hid (HTy.out.trans hty8); have hzy8 := hty8.size; have HG8 := Lib.hid (HG7.out.turn hty8 hgw); clear hcy8 hty8)
            | (go_at_call 50; refine (pick_any g (K + 2 + 6 * f.length + 2 + 2) _ w8 HCy8.out (by omega) (by omega)).mono ?_; rintro e w9 ⟨y9, rfl, h0y9, h1y9, hcy9, hty9⟩; have HCy9 := Lib.hid hcy9; have HTy9 := Lib.hid (HTy8.out.trans hty9); have hzy9 := hty9.size; have HG9 := Lib.hid (HG8.out.turn hty9 hgw); clear hcy9 hty9)
            | (go_at_call 50; refine (pick_any g (K + 2 + 6 * f.length + 2 + 2 + 2) _ w9 HCy9.out (by omega) (by omega)).mono ?_; rintro e w10 ⟨y10, rfl, h0y10, h1y10, hcy10, hty10⟩; have HCy10 := Lib.hid hcy10; have HTy10 := Lib.hid (HTy9.out.trans hty10); have hzy10 := hty10.size; have HG10 := Lib.hid (HG9.out.turn hty10 hgw); clear hcy10 hty10)
            | (at_builtin; refine wpList_pushA rfl (.tmp 60) (.tmp 69) 26 rfl w.heap.size 43 _ 3 24 Slp.enc rfl Slip_info rfl (by omega) _ f [⟨y8 - 1, y9, y10⟩] 1 rfl rfl (by simp) HG10.out rfl Slp_enc_len (by simp [Value.oneCell']) (by simp only [List.length_singleton]; omega) (by omega) (by omega) ?_; intro v6 w6 g6 b6 gb6 k6; have HG6 := Lib.hid g6; have HB6 := Lib.hid b6; clear g6 b6 gb6 k6))
          obtain ⟨A2, c2, hv, ho⟩ := HG6.out.own Slp_enc_len
          subst hv
          have HO := Lib.hid ho
          clear ho
          go_ret
          exact ⟨f ++ [⟨y8 - 1, y9, y10⟩], A2, c2, by simp, by simp; omega, fun s hs => by
            rcases List.mem_append.1 hs with hs | hs
            · exact hP.out s hs
            · rw [List.mem_singleton.1 hs]; exact ⟨⟨by simp only; omega, by simp only; omega⟩, ⟨by simp only; omega, by simp only; omega⟩, ⟨by simp only; omega, by simp only; omega⟩⟩, HO.out, (HCy10.out.keep HB6.out hgw).more (by omega), HTy10.out.thenB HB6.out⟩
        by_cases y1 : y = 1
        · subst y1
          go_upto_region 16 with (go_at_call 85; refine (among_any g _ w7.heap.size 2 2 _ (fun x => 20 ≤ x ∧ x ≤ 21) _ (HCy.out.later ((Below.refl _ _).alloc (Nat.le_refl _) _)) (by omega) (by omega) (by omega) (Cells.lit w7 _ _ 2 rfl) (by have := HCy.out.lt; omega) (by intro k hk; rcases k with _ | _ | k <;> first | exact ⟨_, rfl, by omega⟩ | omega)).mono ?_; rintro e w8 ⟨p8, rfl, hp8, hc8, ht8⟩; have HC8 := Lib.hid hc8; have HT8 := Lib.hid (HTy.out.trans ((Turn.of ((Below.refl _ _).alloc (Nat.le_refl _) _)).trans ht8)); clear hc8 ht8; obtain ⟨p8, rfl⟩ : ∃ q : Nat, p8 = (q : Int) := ⟨p8.toNat, by omega⟩)
          obtain ⟨wo, rfl⟩ : ∃ wo, wo = wr := ⟨wr, rfl⟩
          clear hP HG HG7
          go_loopw [5, 10] (fun v i wr => ∃ (j : Nat) (f : List Slp), i = .int .i64 (j : Int) ∧ f.length + j ≤ 21 ∧ Hid (∀ s ∈ f, slOk s) ∧ Grow wr w.heap.size 43 3 Slp.enc v f ∧ Cur wr g (K + 100) ∧ Turn g w wr) (fun _ i _ => (intOf i).toNat)
          case atStart => exact ⟨p8, [], by rfl, by simp; omega, Lib.hid (by simp), Grow.nil, HC8.out.more (by omega), HT8.out⟩
          case round =>
            obtain ⟨j, f, rfl, hfj, hP, hgr, hcu, htu⟩ := hrel
            have HG := Lib.hid hgr
            have HCu := Lib.hid hcu
            have HTu := Lib.hid htu
            have hzr := htu.size
            clear hgr hcu htu
            by_cases hlt : 0 < j
            · go_wp2_with (at_builtin; refine wpList_pushA rfl (.tmp 80) (.tmp 82) 26 rfl w.heap.size 43 _ 3 24 Slp.enc rfl Slip_info rfl (by omega) _ f [⟨0, 1, 2⟩] 1 rfl rfl (by simp) HG.out rfl Slp_enc_len (by simp [Value.oneCell']) (by simp only [List.length_singleton]; omega) (by omega) (by omega) ?_; intro v6 w6 g6 b6 gb6 k6; have HG6 := Lib.hid g6; have HB6 := Lib.hid b6; clear g6 b6 gb6 k6)
              go_roundw
              case rel => exact ⟨j - 1, f ++ [⟨0, 1, 2⟩], by go_num, by simp; omega, Lib.hid (fun s hs => by
                rcases List.mem_append.1 hs with hs | hs
                · exact hP.out s hs
                · rw [List.mem_singleton.1 hs]; exact ⟨⟨by simp only; omega, by simp only; omega⟩, ⟨by simp only; omega, by simp only; omega⟩, ⟨by simp only; omega, by simp only; omega⟩⟩), HG6.out, HCu.out.keep HB6.out hgw, HTu.out.thenB HB6.out⟩
              case measure => simp [intOf]; omega
            · obtain rfl : j = 0 := by omega
              obtain ⟨A2, c2, hv, ho⟩ := HG.out.own Slp_enc_len
              subst hv
              have HO := Lib.hid ho
              clear ho
              go_wp2
              go_ret
              exact ⟨f, A2, c2, rfl, by omega, hP.out, HO.out, HCu.out.more (by omega), HTu.out⟩
        · obtain ⟨A2, c2, hv, ho⟩ := HG7.out.own Slp_enc_len
          subst hv
          have HO := Lib.hid ho
          clear ho
          go_wp2
          go_ret
          exact ⟨f, A2, c2, rfl, by omega, hP.out, HO.out, HCy.out.more (by omega), HTy.out⟩
  · obtain rfl := List.eq_nil_of_length_eq_zero (show l.length = 0 by omega)
    clear hcz hl0 hl
    simp only [List.length_nil]
    go_enter Try.func105, Try.ntmps105
    go_upto_region 4 with (go_at_call 50; refine (pick_any g (K) _ w H.out (by omega) (by omega)).mono ?_; rintro e w1 ⟨x, rfl, h0x, h1x, hcx, htx⟩; have HCx := Lib.hid hcx; have HTx := Lib.hid ((Lib.hid (Chg.refl g (g + 1) w)).out.trans htx); have hzx := htx.size; obtain ⟨q, rfl⟩ : ∃ q : Nat, x = (q : Int) := ⟨x.toNat, by omega⟩; clear hcx htx)
    go_loopw [5, 6, 7] (fun v t i wr => ∃ (j : Nat) (f : List Slp), i = .int .i64 (j : Int) ∧ t = .int .i64 0 ∧ f = [] ∧ Grow wr w.heap.size 43 3 Slp.enc v f ∧ Cur wr g (K + 2 + 6 * f.length) ∧ Turn g w wr) (fun _ _ i _ => (intOf i).toNat)
    case atStart => exact ⟨q, [], by rfl, by rfl, rfl, Grow.nil, HCx.out.more (by omega), HTx.out⟩
    case round =>
      obtain ⟨j, f, rfl, rfl, hf, hgr, hcu, htu⟩ := hrel
      have HG := Lib.hid hgr
      have hP : Hid (∀ s ∈ f, slOk s) := Lib.hid (by rw [hf]; simp)
      have hf5 : f.length ≤ 5 := by rw [hf]; simp
      have HCu := Lib.hid hcu
      have HTu := Lib.hid htu
      have hzr := htu.size
      clear hf hgr hcu htu
      by_cases hlt : 0 < j
      · go_upto_region 11 with (go_at_call 50; refine (pick_any g (K + 2 + 6 * f.length) _ wr HCu.out (by omega) (by omega)).mono ?_; rintro e w7 ⟨y, rfl, h0y, h1y, hcy, hty⟩; have HCy := Lib.hid hcy; have HTy := Lib.hid (HTu.out.trans hty); have hzy := hty.size; have HG7 := Lib.hid (HG.out.turn hty hgw); clear hcy hty)
        by_cases y0 : y = 0
        · subst y0
          go_wp2_with (first
            | (go_at_call 50; refine (pick_any g (K + 2 + 6 * f.length + 2) _ w7 HCy.out (by omega) (by omega)).mono ?_; rintro e w8 ⟨y8, rfl, h0y8, h1y8, hcy8, hty8⟩; have HCy8 := Lib.hid hcy8; have HTy8 := Lib.hid (HTy.out.trans hty8); have hzy8 := hty8.size; have HG8 := Lib.hid (HG7.out.turn hty8 hgw); clear hcy8 hty8)
            | (go_at_call 50; refine (pick_any g (K + 2 + 6 * f.length + 2 + 2) _ w8 HCy8.out (by omega) (by omega)).mono ?_; rintro e w9 ⟨y9, rfl, h0y9, h1y9, hcy9, hty9⟩; have HCy9 := Lib.hid hcy9; have HTy9 := Lib.hid (HTy8.out.trans hty9); have hzy9 := hty9.size; have HG9 := Lib.hid (HG8.out.turn hty9 hgw); clear hcy9 hty9)
            | (go_at_call 50; refine (pick_any g (K + 2 + 6 * f.length + 2 + 2 + 2) _ w9 HCy9.out (by omega) (by omega)).mono ?_; rintro e w10 ⟨y10, rfl, h0y10, h1y10, hcy10, hty10⟩; have HCy10 := Lib.hid hcy10; have HTy10 := Lib.hid (HTy9.out.trans hty10); have hzy10 := hty10.size; have HG10 := Lib.hid (HG9.out.turn hty10 hgw); clear hcy10 hty10)
            | (at_builtin; refine wpList_pushA rfl (.tmp 60) (.tmp 69) 26 rfl w.heap.size 43 _ 3 24 Slp.enc rfl Slip_info rfl (by omega) _ f [⟨y8 - 1, y9, y10⟩] 1 rfl rfl (by simp) HG10.out rfl Slp_enc_len (by simp [Value.oneCell']) (by simp only [List.length_singleton]; omega) (by omega) (by omega) ?_; intro v6 w6 g6 b6 gb6 k6; have HG6 := Lib.hid g6; have HB6 := Lib.hid b6; clear g6 b6 gb6 k6))
          obtain ⟨A2, c2, hv, ho⟩ := HG6.out.own Slp_enc_len
          subst hv
          have HO := Lib.hid ho
          clear ho
          go_ret
          exact ⟨f ++ [⟨y8 - 1, y9, y10⟩], A2, c2, by simp, by simp; omega, fun s hs => by
            rcases List.mem_append.1 hs with hs | hs
            · exact hP.out s hs
            · rw [List.mem_singleton.1 hs]; exact ⟨⟨by simp only; omega, by simp only; omega⟩, ⟨by simp only; omega, by simp only; omega⟩, ⟨by simp only; omega, by simp only; omega⟩⟩, HO.out, (HCy10.out.keep HB6.out hgw).more (by omega), HTy10.out.thenB HB6.out⟩
        by_cases y1 : y = 1
        · subst y1
          go_upto_region 16 with (go_at_call 85; refine (among_any g _ w7.heap.size 2 2 _ (fun x => 20 ≤ x ∧ x ≤ 21) _ (HCy.out.later ((Below.refl _ _).alloc (Nat.le_refl _) _)) (by omega) (by omega) (by omega) (Cells.lit w7 _ _ 2 rfl) (by have := HCy.out.lt; omega) (by intro k hk; rcases k with _ | _ | k <;> first | exact ⟨_, rfl, by omega⟩ | omega)).mono ?_; rintro e w8 ⟨p8, rfl, hp8, hc8, ht8⟩; have HC8 := Lib.hid hc8; have HT8 := Lib.hid (HTy.out.trans ((Turn.of ((Below.refl _ _).alloc (Nat.le_refl _) _)).trans ht8)); clear hc8 ht8; obtain ⟨p8, rfl⟩ : ∃ q : Nat, p8 = (q : Int) := ⟨p8.toNat, by omega⟩)
          obtain ⟨wo, rfl⟩ : ∃ wo, wo = wr := ⟨wr, rfl⟩
          clear hP HG HG7
          go_loopw [5, 10] (fun v i wr => ∃ (j : Nat) (f : List Slp), i = .int .i64 (j : Int) ∧ f.length + j ≤ 21 ∧ Hid (∀ s ∈ f, slOk s) ∧ Grow wr w.heap.size 43 3 Slp.enc v f ∧ Cur wr g (K + 100) ∧ Turn g w wr) (fun _ i _ => (intOf i).toNat)
          case atStart => exact ⟨p8, [], by rfl, by simp; omega, Lib.hid (by simp), Grow.nil, HC8.out.more (by omega), HT8.out⟩
          case round =>
            obtain ⟨j, f, rfl, hfj, hP, hgr, hcu, htu⟩ := hrel
            have HG := Lib.hid hgr
            have HCu := Lib.hid hcu
            have HTu := Lib.hid htu
            have hzr := htu.size
            clear hgr hcu htu
            by_cases hlt : 0 < j
            · go_wp2_with (at_builtin; refine wpList_pushA rfl (.tmp 80) (.tmp 82) 26 rfl w.heap.size 43 _ 3 24 Slp.enc rfl Slip_info rfl (by omega) _ f [⟨0, 1, 2⟩] 1 rfl rfl (by simp) HG.out rfl Slp_enc_len (by simp [Value.oneCell']) (by simp only [List.length_singleton]; omega) (by omega) (by omega) ?_; intro v6 w6 g6 b6 gb6 k6; have HG6 := Lib.hid g6; have HB6 := Lib.hid b6; clear g6 b6 gb6 k6)
              go_roundw
              case rel => exact ⟨j - 1, f ++ [⟨0, 1, 2⟩], by go_num, by simp; omega, Lib.hid (fun s hs => by
                rcases List.mem_append.1 hs with hs | hs
                · exact hP.out s hs
                · rw [List.mem_singleton.1 hs]; exact ⟨⟨by simp only; omega, by simp only; omega⟩, ⟨by simp only; omega, by simp only; omega⟩, ⟨by simp only; omega, by simp only; omega⟩⟩), HG6.out, HCu.out.keep HB6.out hgw, HTu.out.thenB HB6.out⟩
              case measure => simp [intOf]; omega
            · obtain rfl : j = 0 := by omega
              obtain ⟨A2, c2, hv, ho⟩ := HG.out.own Slp_enc_len
              subst hv
              have HO := Lib.hid ho
              clear ho
              go_wp2
              go_ret
              exact ⟨f, A2, c2, rfl, by omega, hP.out, HO.out, HCu.out.more (by omega), HTu.out⟩
        · obtain ⟨A2, c2, hv, ho⟩ := HG7.out.own Slp_enc_len
          subst hv
          have HO := Lib.hid ho
          clear ho
          go_wp2
          go_ret
          exact ⟨f, A2, c2, rfl, by omega, hP.out, HO.out, HCy.out.more (by omega), HTy.out⟩
      · go_upto_region 11 with (go_at_call 50; refine (pick_any g (K + 2 + 6 * f.length) _ wr HCu.out (by omega) (by omega)).mono ?_; rintro e w7 ⟨y, rfl, h0y, h1y, hcy, hty⟩; have HCy := Lib.hid hcy; have HTy := Lib.hid (HTu.out.trans hty); have hzy := hty.size; have HG7 := Lib.hid (HG.out.turn hty hgw); clear hcy hty)
        by_cases y0 : y = 0
        · subst y0
          go_wp2_with (first
            | (go_at_call 50; refine (pick_any g (K + 2 + 6 * f.length + 2) _ w7 HCy.out (by omega) (by omega)).mono ?_; rintro e w8 ⟨y8, rfl, h0y8, h1y8, hcy8, hty8⟩; have HCy8 := Lib.hid hcy8; have HTy8 := Lib.hid (HTy.out.trans hty8); have hzy8 := hty8.size; have HG8 := Lib.hid (HG7.out.turn hty8 hgw); clear hcy8 hty8)
            | (go_at_call 50; refine (pick_any g (K + 2 + 6 * f.length + 2 + 2) _ w8 HCy8.out (by omega) (by omega)).mono ?_; rintro e w9 ⟨y9, rfl, h0y9, h1y9, hcy9, hty9⟩; have HCy9 := Lib.hid hcy9; have HTy9 := Lib.hid (HTy8.out.trans hty9); have hzy9 := hty9.size; have HG9 := Lib.hid (HG8.out.turn hty9 hgw); clear hcy9 hty9)
            | (go_at_call 50; refine (pick_any g (K + 2 + 6 * f.length + 2 + 2 + 2) _ w9 HCy9.out (by omega) (by omega)).mono ?_; rintro e w10 ⟨y10, rfl, h0y10, h1y10, hcy10, hty10⟩; have HCy10 := Lib.hid hcy10; have HTy10 := Lib.hid (HTy9.out.trans hty10); have hzy10 := hty10.size; have HG10 := Lib.hid (HG9.out.turn hty10 hgw); clear hcy10 hty10)
            | (at_builtin; refine wpList_pushA rfl (.tmp 60) (.tmp 69) 26 rfl w.heap.size 43 _ 3 24 Slp.enc rfl Slip_info rfl (by omega) _ f [⟨y8 - 1, y9, y10⟩] 1 rfl rfl (by simp) HG10.out rfl Slp_enc_len (by simp [Value.oneCell']) (by simp only [List.length_singleton]; omega) (by omega) (by omega) ?_; intro v6 w6 g6 b6 gb6 k6; have HG6 := Lib.hid g6; have HB6 := Lib.hid b6; clear g6 b6 gb6 k6))
          obtain ⟨A2, c2, hv, ho⟩ := HG6.out.own Slp_enc_len
          subst hv
          have HO := Lib.hid ho
          clear ho
          go_ret
          exact ⟨f ++ [⟨y8 - 1, y9, y10⟩], A2, c2, by simp, by simp; omega, fun s hs => by
            rcases List.mem_append.1 hs with hs | hs
            · exact hP.out s hs
            · rw [List.mem_singleton.1 hs]; exact ⟨⟨by simp only; omega, by simp only; omega⟩, ⟨by simp only; omega, by simp only; omega⟩, ⟨by simp only; omega, by simp only; omega⟩⟩, HO.out, (HCy10.out.keep HB6.out hgw).more (by omega), HTy10.out.thenB HB6.out⟩
        by_cases y1 : y = 1
        · subst y1
          go_upto_region 16 with (go_at_call 85; refine (among_any g _ w7.heap.size 2 2 _ (fun x => 20 ≤ x ∧ x ≤ 21) _ (HCy.out.later ((Below.refl _ _).alloc (Nat.le_refl _) _)) (by omega) (by omega) (by omega) (Cells.lit w7 _ _ 2 rfl) (by have := HCy.out.lt; omega) (by intro k hk; rcases k with _ | _ | k <;> first | exact ⟨_, rfl, by omega⟩ | omega)).mono ?_; rintro e w8 ⟨p8, rfl, hp8, hc8, ht8⟩; have HC8 := Lib.hid hc8; have HT8 := Lib.hid (HTy.out.trans ((Turn.of ((Below.refl _ _).alloc (Nat.le_refl _) _)).trans ht8)); clear hc8 ht8; obtain ⟨p8, rfl⟩ : ∃ q : Nat, p8 = (q : Int) := ⟨p8.toNat, by omega⟩)
          obtain ⟨wo, rfl⟩ : ∃ wo, wo = wr := ⟨wr, rfl⟩
          clear hP HG HG7
          go_loopw [5, 10] (fun v i wr => ∃ (j : Nat) (f : List Slp), i = .int .i64 (j : Int) ∧ f.length + j ≤ 21 ∧ Hid (∀ s ∈ f, slOk s) ∧ Grow wr w.heap.size 43 3 Slp.enc v f ∧ Cur wr g (K + 100) ∧ Turn g w wr) (fun _ i _ => (intOf i).toNat)
          case atStart => exact ⟨p8, [], by rfl, by simp; omega, Lib.hid (by simp), Grow.nil, HC8.out.more (by omega), HT8.out⟩
          case round =>
            obtain ⟨j, f, rfl, hfj, hP, hgr, hcu, htu⟩ := hrel
            have HG := Lib.hid hgr
            have HCu := Lib.hid hcu
            have HTu := Lib.hid htu
            have hzr := htu.size
            clear hgr hcu htu
            by_cases hlt : 0 < j
            · go_wp2_with (at_builtin; refine wpList_pushA rfl (.tmp 80) (.tmp 82) 26 rfl w.heap.size 43 _ 3 24 Slp.enc rfl Slip_info rfl (by omega) _ f [⟨0, 1, 2⟩] 1 rfl rfl (by simp) HG.out rfl Slp_enc_len (by simp [Value.oneCell']) (by simp only [List.length_singleton]; omega) (by omega) (by omega) ?_; intro v6 w6 g6 b6 gb6 k6; have HG6 := Lib.hid g6; have HB6 := Lib.hid b6; clear g6 b6 gb6 k6)
              go_roundw
              case rel => exact ⟨j - 1, f ++ [⟨0, 1, 2⟩], by go_num, by simp; omega, Lib.hid (fun s hs => by
                rcases List.mem_append.1 hs with hs | hs
                · exact hP.out s hs
                · rw [List.mem_singleton.1 hs]; exact ⟨⟨by simp only; omega, by simp only; omega⟩, ⟨by simp only; omega, by simp only; omega⟩, ⟨by simp only; omega, by simp only; omega⟩⟩), HG6.out, HCu.out.keep HB6.out hgw, HTu.out.thenB HB6.out⟩
              case measure => simp [intOf]; omega
            · obtain rfl : j = 0 := by omega
              obtain ⟨A2, c2, hv, ho⟩ := HG.out.own Slp_enc_len
              subst hv
              have HO := Lib.hid ho
              clear ho
              go_wp2
              go_ret
              exact ⟨f, A2, c2, rfl, by omega, hP.out, HO.out, HCu.out.more (by omega), HTu.out⟩
        · obtain ⟨A2, c2, hv, ho⟩ := HG7.out.own Slp_enc_len
          subst hv
          have HO := Lib.hid ho
          clear ho
          go_wp2
          go_ret
          exact ⟨f, A2, c2, rfl, by omega, hP.out, HO.out, HCy.out.more (by omega), HTy.out⟩
/-- Drawn rows. -/
def RwOk (l : List ByteArray) (c : Nat) : Prop := l.length ≤ 12 ∧ l.length ≤ c ∧ ∀ r ∈ l, r.size ≤ 8
def FlOk (f : List Slp) : Prop := f.length ≤ 21 ∧ ∀ s ∈ f, slOk s


set_option maxHeartbeats 1600000 in
theorem drawGoodSlips_any (A : Option Addr) (c : Nat) (l : List Int) (w : World) (h : RdL w w.heap.size A 1 encByte l) (hb : ∀ x ∈ l, 0 ≤ x ∧ x < 256) (hl : l.length ≤ 9223372036854775807) :
    Calls Try.prog 59 #[.slice A l.length c] w fun e w' => ∃ (rows : List ByteArray) (A1 : Option Addr) (c1 : Nat) (f : List Slp) (A2 : Option Addr) (c2 : Nat), e = .returned (.tuple #[.slice A1 rows.length c1, .slice A2 f.length c2]) ∧ RwOk rows c1 ∧ FlOk f ∧ RdL w' w'.heap.size A1 1 encString rows ∧ RdL w' w'.heap.size A2 3 Slp.enc f ∧ Below w.heap.size w w' := by
  have hcur := Lib.hid (Cur.new (c := c) h hb (Nat.le_trans hl (by omega)) 80)
  have hbw : Hid (Below w.heap.size w (w.alloc (.cells #[.slice A l.length c, .int .i64 0, .int .u64 0] 80))) := Lib.hid ((Below.refl _ _).alloc (Nat.le_refl _) _)
  have hsz : (w.alloc (.cells #[.slice A l.length c, .int .i64 0, .int .u64 0] 80)).heap.size = w.heap.size + 1 := by simp
  clear h hb
  go_enter Try.func59, Try.ntmps59
  go_upto_region 2 with fail
  generalize w.alloc (.cells #[.slice A l.length c, .int .i64 0, .int .u64 0] 80) = W at *
  have hsW : W.heap.size = w.heap.size + 1 := hsz
  go_wp2_with (first
    | (go_at_call 104; refine (rows25_any w.heap.size 0 _ hcur.out (by omega)).mono ?_; rintro e w1 ⟨rows, A1, c1, rfl, h1, h2, h3, ha, hc, ht⟩; have HA := Lib.hid (ha.weak (show w.heap.size + 1 ≤ W.heap.size by omega)); have H3 := Lib.hid h3; have HC := Lib.hid hc; have HT := Lib.hid ht; have hz1 := ht.size; clear h3 ha hc ht)
    | (go_at_call 105; refine (faults_any w.heap.size _ rows A1 c1 w1 HC.out (by omega) HA.out h1 H3.out).mono ?_; rintro e w2 ⟨f, A2, c2, rfl, k1, k2, ho, hc, ht⟩; have HO := Lib.hid ho; have K2 := Lib.hid k2; have HT2 := Lib.hid (HT.out.trans ht); have HA2 := Lib.hid (HA.out.turn ht (Nat.lt_succ_self _)); clear k2 ho hc ht))
  go_ret2
  exact ⟨rows, A1, c1, f, A2, c2, rfl, ⟨h1, h2, H3.out⟩, ⟨k1, K2.out⟩, HA2.out.1, HO.out.rd Slp_enc_len, Below.chg hbw.out HT2.out (Nat.le_refl _) (by omega)⟩
theorem drawRungRows_any (A : Option Addr) (c : Nat) (l : List Int) (w : World) (h : RdL w w.heap.size A 1 encByte l) (hb : ∀ x ∈ l, 0 ≤ x ∧ x < 256) (hl : l.length ≤ 9223372036854775807) :
    Calls Try.prog 9 #[.slice A l.length c] w fun e w' => ∃ (rows : List ByteArray) (A1 : Option Addr) (c1 : Nat) (f : List Slp) (A2 : Option Addr) (c2 : Nat), e = .returned (.tuple #[.slice A1 rows.length c1, .slice A2 f.length c2]) ∧ RwOk rows c1 ∧ FlOk f ∧ RdL w' w'.heap.size A1 1 encString rows ∧ RdL w' w'.heap.size A2 3 Slp.enc f ∧ Below w.heap.size w w' := by
  have HD := Lib.hid (drawGoodSlips_any A c l w h hb hl)
  clear h hb
  go_enter Try.func9, Try.ntmps9
  go_wp2_with (go_at_call 59; refine HD.out.mono ?_; rintro e w1 ⟨rows, A1, c1, f, A2, c2, rfl, h1, h2, h3, h4, h5⟩; have H1 := Lib.hid h1; have H2 := Lib.hid h2; have H3 := Lib.hid h3; have H4 := Lib.hid h4; have H5 := Lib.hid h5; clear h1 h2 h3 h4 h5)
  go_ret2
  exact ⟨rows, A1, c1, f, A2, c2, rfl, H1.out, H2.out, H3.out, H4.out, H5.out⟩
end Go.Proofs.Ytbfhfnejppfehaa
