import Derived.Test.YtbfhfnejppfehaaDoorMGainL07
import Derived.Test.YtbfhfnejppfehaaDoorMGainL21
/-
  The reader of choices: a placing of drawn people; prices; the drawn arguments of GoodPlacing and CheckPlacing.
-/
namespace Go.Proofs.YtbfhfnejppfehaaDoor
open Go.RowKit
set_option linter.unusedVariables false
set_option linter.unusedSimpArgs false
set_option maxRecDepth 100000

theorem small_ps {D : List Psn} (h : ∀ d ∈ D, d.name.size ≤ 3 ∧ d.x.length ≤ 6) : ∀ x ∈ D.map Psn.key, Person_small 1048576 x := fun x hx => by
  obtain ⟨d, hd, rfl⟩ := List.mem_map.1 hx
  have := h d hd
  exact ⟨by simp only [Psn.key]; omega, by simp only [Psn.key]; omega⟩
/-- Integers in memory, away from the reader. -/
def AwL (w : World) (g : Nat) (A : Option Addr) (l : List Int) : Prop := RdL w w.heap.size A 1 encInt l ∧ (l = [] ∨ NotAt A g)
theorem AwL.turn {w w' : World} {g : Nat} {A : Option Addr} {l : List Int} (h : AwL w g A l) (t : Turn g w w') : AwL w' g A l := by
  rcases h.2 with h2 | h2
  · subst h2; exact ⟨.inl rfl, .inl rfl⟩
  · exact ⟨(h.1.turnA t (Nat.le_refl _) h2).more t.size, .inr h2⟩
theorem AwL.later {w w' : World} {g : Nat} {A : Option Addr} {l : List Int} (h : AwL w g A l) (t : Below w.heap.size w w') : AwL w' g A l := h.turn (Turn.of t)
theorem AwL.own {w : World} {b c g : Nat} {A : Option Addr} {l : List Int} (h : OwnL w b c A 1 encInt l) (hg : g < b) : AwL w g A l := by
  refine ⟨h.rd encInt_len, ?_⟩
  rcases h with h | ⟨g', f, hA, h1, h2, _⟩
  · exact .inl h
  · refine .inr fun q off e => ?_
    rw [hA] at e; injection e with e; injection e with e _ _; omega
theorem sBest_tf (D : List Psn) (g : Nat) (A : Option Addr) (c : Nat) (n : Int) (w : World) (h : AwP w g A D) (h7 : D.length ≤ 7) (hc : D.length ≤ c) (hs : ∀ d ∈ D, d.name.size ≤ 3 ∧ d.x.length ≤ 6) :
    ∃ b : Bool, Calls Tryd.prog 113 #[.slice A D.length c, .int .i64 n] w fun e w' => ∃ (A2 : Option Addr) (c2 : Nat) (who : List Int), e = .returned (.tuple #[.slice A2 who.length c2, .bool b]) ∧ who.length ≤ 7 ∧ who.length ≤ c2 ∧ OwnL w' w.heap.size w'.heap.size A2 1 encInt who ∧ Below w.heap.size w w' := by
  by_cases hp : bestP (D.map Psn.key) n
  · refine ⟨true, ?_⟩
    have := sBestC_t (D.map Psn.key) A c n w h.rdP (by simp; omega) (by simpa using hc) (small_ps hs) hp
    rw [List.length_map] at this
    exact this.mono fun e w' ⟨A2, c2, h1, h2, h3, h4⟩ => ⟨A2, c2, _, h1, best_len hp.1, h2, h3.mono (by have := h4.size; omega) (Nat.le_refl _), h4⟩
  · refine ⟨false, ?_⟩
    have := sBest_f (D.map Psn.key) A c n w h.rdP (by simp; omega) (by simpa using hc) (small_ps hs) hp
    rw [List.length_map] at this
    exact this.mono fun e w' ⟨h1, h4⟩ => ⟨none, 0, [], h1, by simp, by simp, OwnL.nil, h4⟩



set_option maxHeartbeats 3200000 in
theorem placing_any (g K : Nat) (w : World) (h : Cur w g K) (hK : K ≤ 90000) (A : Option Addr) (c : Nat) (D : List Psn) (n : Int) (hp : AwP w g A D) (h7 : D.length ≤ 7) (hc : D.length ≤ c) (hn : 0 ≤ n ∧ n ≤ 6) (hs : ∀ d ∈ D, d.name.size ≤ 3 ∧ d.x.length ≤ 6) :
    Calls Tryd.prog 83 #[.pointer (some ⟨g, 0, none⟩), .slice A D.length c, .int .i64 n] w fun e w' => ∃ (A2 : Option Addr) (c2 : Nat) (who : List Int), e = .returned (.slice A2 who.length c2) ∧ who.length ≤ 7 ∧ who.length ≤ c2 ∧ AwL w' g A2 who ∧ Cur w' g (K + 200) ∧ Turn g w w' := by
  have H := Lib.hid h
  have hgw := h.lt
  obtain ⟨hn0, hn6⟩ := hn
  obtain ⟨b, hB⟩ := sBest_tf D g A c n w hp h7 hc hs
  have HB := Lib.hid hB
  clear h hB hp hs
  cases b
  · go_enter Tryd.func83, Tryd.ntmps83
    go_upto_region 5 with (go_at_call 113; refine HB.out.mono ?_; rintro e wS ⟨A3, c3, who3, rfl, h37, h3c, ho3, hb3⟩; have HCS := Lib.hid ((H.out.later hb3).more (show K ≤ K + 2 by omega)); have HTS := Lib.hid (Turn.of (g := g) hb3); have hzS := hb3.size; clear ho3 hb3)
    skip
    go_loopw [7, 9] (fun v i wr => ∃ (k : Nat) (xs : List Int), i = .int .i64 (k : Int) ∧ (k : Int) ≤ n ∧ xs.length = k ∧ Grow wr w.heap.size 3 1 encInt v xs ∧ Cur wr g (K + 2 + 2 * k) ∧ Turn g w wr) (fun _ i _ => 7 - (intOf i).toNat)
    case atStart => exact ⟨0, [], by rfl, by omega, rfl, Grow.nil, HCS.out, HTS.out⟩
    case round =>
      obtain ⟨k, xs, rfl, hkn, hxl, hgr, hcu, htu⟩ := hrel
      have HGr := Lib.hid hgr
      have HCu := Lib.hid hcu
      have HTu := Lib.hid htu
      have Hxl := Lib.hid hxl
      have hx6 : xs.length ≤ 6 := by omega
      have hszr := htu.size
      clear hgr hcu htu hxl
      by_cases hlt : (k : Int) < n
      · go_wp2_with (first
          | (go_at_call 41; refine (pick_any g (K + 2 + 2 * k) _ wr HCu.out (by omega) (by omega)).mono ?_; rintro e w5 ⟨x, rfl, hx0, hx1, hc, ht⟩; have HC5 := Lib.hid hc; have HT5 := Lib.hid (HTu.out.trans ht); have hz5 := ht.size; have HG5 := Lib.hid (HGr.out.turn ht hgw); clear hc ht)
          | (at_builtin; refine wpList_pushA rfl (.tmp 29) (.tmp 35) 42 rfl w.heap.size 3 _ 1 8 encInt rfl Int_info rfl (by omega) u7 xs [x] 1 rfl rfl (by simp) HG5.out rfl encInt_len (by simp [Value.oneCell']) (by simp only [List.length_singleton]; omega) (by omega) (by omega) ?_; intro av aw ag ab agb ak))
        have HAg := Lib.hid ag
        have HAb := Lib.hid ab
        clear ag ab agb ak
        go_roundw
        case rel => exact ⟨k + 1, xs ++ [x], by go_num, by omega, by have := Hxl.out; simp; omega, HAg.out, (HC5.out.keep HAb.out hgw).more (by omega), HT5.out.thenB HAb.out⟩
        case measure => simp [intOf]; omega
      · obtain ⟨A2, c2, hv, ho⟩ := HGr.out.own encInt_len
        subst hv
        have hwc := HGr.out.capN
        obtain ⟨wT, rfl⟩ : ∃ wT, wT = wr := ⟨wr, rfl⟩
        obtain ⟨who, rfl⟩ : ∃ who, who = xs := ⟨xs, rfl⟩
        have hw7 : who.length ≤ 7 := by omega
        have HoT := Lib.hid ho
        have HCT : Hid (Cur wT g (K + 30)) := Lib.hid (HCu.out.more (by omega))
        have HTT := HTu
        clear ho HGr HCu HTu Hxl hx6
        go_upto_region 8 with fail
        by_cases hw1 : 1 < who.length
        · have d1 : decide ((1 : Int) < (who.length : Int)) = true := by simp; omega
          go_upto_region 9 with (go_at_call 55; refine (one_any g (K + 30) 3 wT HCT.out (by omega) (by omega)).mono ?_; rintro e w8 ⟨b8, rfl, hc8, ht8⟩; have HC8 := Lib.hid hc8; have HT8 := Lib.hid (HTT.out.trans ht8); have hz8 := ht8.size; have HO8 := Lib.hid (HoT.out.chg ht8 (.inr hgw)); clear hc8 ht8; cases b8)
          · go_ret
            exact ⟨A2, c2, who, rfl, hw7, hwc, AwL.own HO8.out hgw, HC8.out.more (by omega), HT8.out⟩
          · obtain ⟨gw, fw, hAw, hw2, hw3, hclw⟩ := HO8.out.cells (by omega)
            subst hAw
            clear hclw
            go_upto_region 10 with (go_at_call 41; refine (pick_any g (K + 32) _ w8 HC8.out (by omega) (by omega)).mono ?_; rintro e w9 ⟨x9, rfl, hx90, hx91, hc9, ht9⟩; have HC9 := Lib.hid hc9; have HT9 := Lib.hid (HT8.out.trans ht9); have hz9 := ht9.size; have HO9 := Lib.hid (HO8.out.chg ht9 (.inr hgw)); clear hc9 ht9; obtain ⟨k9, rfl⟩ : ∃ k9 : Nat, x9 = (k9 : Int) := ⟨x9.toNat, by omega⟩; have hk9 : k9 < who.length := (by omega))
            have hl0 : 0 < who.length := by omega
            obtain ⟨p0, q0⟩ := HO9.out.cellInt k9 hk9
            obtain ⟨p1, q1⟩ := HO9.out.cellInt 0 hl0
            obtain ⟨z0, p2, q2⟩ : ∃ z0, (w9.setCell ⟨gw, k9, none⟩ (.int .i64 who[0])).cell? ⟨gw, 0, none⟩ = some (.int .i64 z0) ∧ (w9.setCell ⟨gw, k9, none⟩ (.int .i64 who[0])).frozen? ⟨gw, 0, none⟩ = false := ⟨_, (HO9.out.setInt k9 hk9 who[0]).cellInt 0 (by simp; omega)⟩
            have HO10 : Hid (OwnL ((w9.setCell ⟨gw, k9, none⟩ (.int .i64 who[0])).setCell ⟨gw, 0, none⟩ (.int .i64 who[k9])) w.heap.size wT.heap.size (some ⟨gw, 0, none⟩) 1 encInt ((who.set k9 who[0]).set 0 who[k9])) := Lib.hid ((HO9.out.setInt k9 hk9 who[0]).setInt 0 (by simp; omega) who[k9])
            have HL10 : Hid (((who.set k9 who[0]).set 0 who[k9]).length = who.length) := Lib.hid (by simp)
            have HB10 : Hid (Below gw w9 ((w9.setCell ⟨gw, k9, none⟩ (.int .i64 who[0])).setCell ⟨gw, 0, none⟩ (.int .i64 who[k9]))) := Lib.hid (((Below.refl gw w9).setCell (p := ⟨gw, k9, none⟩) (Nat.le_refl _) _).setCell (p := ⟨gw, 0, none⟩) (Nat.le_refl _) _)
            generalize (who.set k9 who[0]).set 0 who[k9] = who2 at *
            generalize who[k9] = x1 at *
            generalize who[0] = x0 at *
            go_wp2
            go_ret
            exact ⟨_, c2, who2, by rw [HL10.out]; rfl, by rw [HL10.out]; exact hw7, by rw [HL10.out]; exact hwc, AwL.own HO10.out hgw, (HC9.out.keep HB10.out (by omega)).more (by omega), HT9.out.thenB (HB10.out.mono hw2)⟩
        · have d1 : decide ((1 : Int) < (who.length : Int)) = false := by simp; omega
          go_wp2
          go_ret
          exact ⟨A2, c2, who, rfl, hw7, hwc, AwL.own HoT.out hgw, HCT.out.more (by omega), HTT.out⟩
  · go_enter Tryd.func83, Tryd.ntmps83
    go_upto_region 8 with (first
      | (go_at_call 113; refine HB.out.mono ?_; rintro e w2 ⟨A2, c2, who, rfl, hw7, hwc, ho3, hb3⟩; have HC2 := Lib.hid (H.out.later hb3); have HT2 := Lib.hid (Turn.of (g := g) hb3); have hz2 := hb3.size; have HO2 := Lib.hid ho3; clear ho3 hb3)
      | (go_at_call 55; refine (one_any g K 3 w2 HC2.out (by omega) (by omega)).mono ?_; rintro e wS ⟨b8, rfl, hc8, ht8⟩; have HCS := Lib.hid hc8; have HTS := Lib.hid (HT2.out.trans ht8); have hzS := ht8.size; have HOS := Lib.hid (HO2.out.chg ht8 (.inr hgw)); clear hc8 ht8; cases b8))
    · obtain ⟨wT, rfl⟩ : ∃ wT, wT = wS := ⟨wS, rfl⟩
      have HoT := Lib.hid (HOS.out.mono (Nat.le_refl _) hzS)
      have HCT : Hid (Cur wT g (K + 30)) := Lib.hid (HCS.out.more (by omega))
      have HTT := HTS
      clear HOS HCS HTS
      by_cases hw1 : 1 < who.length
      · have d1 : decide ((1 : Int) < (who.length : Int)) = true := by simp; omega
        go_upto_region 9 with (go_at_call 55; refine (one_any g (K + 30) 3 wT HCT.out (by omega) (by omega)).mono ?_; rintro e w8 ⟨b8, rfl, hc8, ht8⟩; have HC8 := Lib.hid hc8; have HT8 := Lib.hid (HTT.out.trans ht8); have hz8 := ht8.size; have HO8 := Lib.hid (HoT.out.chg ht8 (.inr hgw)); clear hc8 ht8; cases b8)
        · go_ret
          exact ⟨A2, c2, who, rfl, hw7, hwc, AwL.own HO8.out hgw, HC8.out.more (by omega), HT8.out⟩
        · obtain ⟨gw, fw, hAw, hw2, hw3, hclw⟩ := HO8.out.cells (by omega)
          subst hAw
          clear hclw
          go_upto_region 10 with (go_at_call 41; refine (pick_any g (K + 32) _ w8 HC8.out (by omega) (by omega)).mono ?_; rintro e w9 ⟨x9, rfl, hx90, hx91, hc9, ht9⟩; have HC9 := Lib.hid hc9; have HT9 := Lib.hid (HT8.out.trans ht9); have hz9 := ht9.size; have HO9 := Lib.hid (HO8.out.chg ht9 (.inr hgw)); clear hc9 ht9; obtain ⟨k9, rfl⟩ : ∃ k9 : Nat, x9 = (k9 : Int) := ⟨x9.toNat, by omega⟩; have hk9 : k9 < who.length := (by omega))
          have hl0 : 0 < who.length := by omega
          obtain ⟨p0, q0⟩ := HO9.out.cellInt k9 hk9
          obtain ⟨p1, q1⟩ := HO9.out.cellInt 0 hl0
          obtain ⟨z0, p2, q2⟩ : ∃ z0, (w9.setCell ⟨gw, k9, none⟩ (.int .i64 who[0])).cell? ⟨gw, 0, none⟩ = some (.int .i64 z0) ∧ (w9.setCell ⟨gw, k9, none⟩ (.int .i64 who[0])).frozen? ⟨gw, 0, none⟩ = false := ⟨_, (HO9.out.setInt k9 hk9 who[0]).cellInt 0 (by simp; omega)⟩
          have HO10 : Hid (OwnL ((w9.setCell ⟨gw, k9, none⟩ (.int .i64 who[0])).setCell ⟨gw, 0, none⟩ (.int .i64 who[k9])) w.heap.size wT.heap.size (some ⟨gw, 0, none⟩) 1 encInt ((who.set k9 who[0]).set 0 who[k9])) := Lib.hid ((HO9.out.setInt k9 hk9 who[0]).setInt 0 (by simp; omega) who[k9])
          have HL10 : Hid (((who.set k9 who[0]).set 0 who[k9]).length = who.length) := Lib.hid (by simp)
          have HB10 : Hid (Below gw w9 ((w9.setCell ⟨gw, k9, none⟩ (.int .i64 who[0])).setCell ⟨gw, 0, none⟩ (.int .i64 who[k9]))) := Lib.hid (((Below.refl gw w9).setCell (p := ⟨gw, k9, none⟩) (Nat.le_refl _) _).setCell (p := ⟨gw, 0, none⟩) (Nat.le_refl _) _)
          generalize (who.set k9 who[0]).set 0 who[k9] = who2 at *
          generalize who[k9] = x1 at *
          generalize who[0] = x0 at *
          go_wp2
          go_ret
          exact ⟨_, c2, who2, by rw [HL10.out]; rfl, by rw [HL10.out]; exact hw7, by rw [HL10.out]; exact hwc, AwL.own HO10.out hgw, (HC9.out.keep HB10.out (by omega)).more (by omega), HT9.out.thenB (HB10.out.mono hw2)⟩
      · have d1 : decide ((1 : Int) < (who.length : Int)) = false := by simp; omega
        go_wp2
        go_ret
        exact ⟨A2, c2, who, rfl, hw7, hwc, AwL.own HoT.out hgw, HCT.out.more (by omega), HTT.out⟩
    · clear HOS HO2
      skip
      go_loopw [7, 9] (fun v i wr => ∃ (k : Nat) (xs : List Int), i = .int .i64 (k : Int) ∧ (k : Int) ≤ n ∧ xs.length = k ∧ Grow wr w.heap.size 3 1 encInt v xs ∧ Cur wr g (K + 2 + 2 * k) ∧ Turn g w wr) (fun _ i _ => 7 - (intOf i).toNat)
      case atStart => exact ⟨0, [], by rfl, by omega, rfl, Grow.nil, HCS.out, HTS.out⟩
      case round =>
        obtain ⟨k, xs, rfl, hkn, hxl, hgr, hcu, htu⟩ := hrel
        have HGr := Lib.hid hgr
        have HCu := Lib.hid hcu
        have HTu := Lib.hid htu
        have Hxl := Lib.hid hxl
        have hx6 : xs.length ≤ 6 := by omega
        have hszr := htu.size
        clear hgr hcu htu hxl
        by_cases hlt : (k : Int) < n
        · go_wp2_with (first
            | (go_at_call 41; refine (pick_any g (K + 2 + 2 * k) _ wr HCu.out (by omega) (by omega)).mono ?_; rintro e w5 ⟨x, rfl, hx0, hx1, hc, ht⟩; have HC5 := Lib.hid hc; have HT5 := Lib.hid (HTu.out.trans ht); have hz5 := ht.size; have HG5 := Lib.hid (HGr.out.turn ht hgw); clear hc ht)
            | (at_builtin; refine wpList_pushA rfl (.tmp 29) (.tmp 35) 42 rfl w.heap.size 3 _ 1 8 encInt rfl Int_info rfl (by omega) u7 xs [x] 1 rfl rfl (by simp) HG5.out rfl encInt_len (by simp [Value.oneCell']) (by simp only [List.length_singleton]; omega) (by omega) (by omega) ?_; intro av aw ag ab agb ak))
          have HAg := Lib.hid ag
          have HAb := Lib.hid ab
          clear ag ab agb ak
          go_roundw
          case rel => exact ⟨k + 1, xs ++ [x], by go_num, by omega, by have := Hxl.out; simp; omega, HAg.out, (HC5.out.keep HAb.out hgw).more (by omega), HT5.out.thenB HAb.out⟩
          case measure => simp [intOf]; omega
        · obtain ⟨A2, c2, hv, ho⟩ := HGr.out.own encInt_len
          subst hv
          have hwc := HGr.out.capN
          obtain ⟨wT, rfl⟩ : ∃ wT, wT = wr := ⟨wr, rfl⟩
          obtain ⟨who, rfl⟩ : ∃ who, who = xs := ⟨xs, rfl⟩
          have hw7 : who.length ≤ 7 := by omega
          have HoT := Lib.hid ho
          have HCT : Hid (Cur wT g (K + 30)) := Lib.hid (HCu.out.more (by omega))
          have HTT := HTu
          clear ho HGr HCu HTu Hxl hx6
          go_upto_region 8 with fail
          by_cases hw1 : 1 < who.length
          · have d1 : decide ((1 : Int) < (who.length : Int)) = true := by simp; omega
            go_upto_region 9 with (go_at_call 55; refine (one_any g (K + 30) 3 wT HCT.out (by omega) (by omega)).mono ?_; rintro e w8 ⟨b8, rfl, hc8, ht8⟩; have HC8 := Lib.hid hc8; have HT8 := Lib.hid (HTT.out.trans ht8); have hz8 := ht8.size; have HO8 := Lib.hid (HoT.out.chg ht8 (.inr hgw)); clear hc8 ht8; cases b8)
            · go_ret
              exact ⟨A2, c2, who, rfl, hw7, hwc, AwL.own HO8.out hgw, HC8.out.more (by omega), HT8.out⟩
            · obtain ⟨gw, fw, hAw, hw2, hw3, hclw⟩ := HO8.out.cells (by omega)
              subst hAw
              clear hclw
              go_upto_region 10 with (go_at_call 41; refine (pick_any g (K + 32) _ w8 HC8.out (by omega) (by omega)).mono ?_; rintro e w9 ⟨x9, rfl, hx90, hx91, hc9, ht9⟩; have HC9 := Lib.hid hc9; have HT9 := Lib.hid (HT8.out.trans ht9); have hz9 := ht9.size; have HO9 := Lib.hid (HO8.out.chg ht9 (.inr hgw)); clear hc9 ht9; obtain ⟨k9, rfl⟩ : ∃ k9 : Nat, x9 = (k9 : Int) := ⟨x9.toNat, by omega⟩; have hk9 : k9 < who.length := (by omega))
              have hl0 : 0 < who.length := by omega
              obtain ⟨p0, q0⟩ := HO9.out.cellInt k9 hk9
              obtain ⟨p1, q1⟩ := HO9.out.cellInt 0 hl0
              obtain ⟨z0, p2, q2⟩ : ∃ z0, (w9.setCell ⟨gw, k9, none⟩ (.int .i64 who[0])).cell? ⟨gw, 0, none⟩ = some (.int .i64 z0) ∧ (w9.setCell ⟨gw, k9, none⟩ (.int .i64 who[0])).frozen? ⟨gw, 0, none⟩ = false := ⟨_, (HO9.out.setInt k9 hk9 who[0]).cellInt 0 (by simp; omega)⟩
              have HO10 : Hid (OwnL ((w9.setCell ⟨gw, k9, none⟩ (.int .i64 who[0])).setCell ⟨gw, 0, none⟩ (.int .i64 who[k9])) w.heap.size wT.heap.size (some ⟨gw, 0, none⟩) 1 encInt ((who.set k9 who[0]).set 0 who[k9])) := Lib.hid ((HO9.out.setInt k9 hk9 who[0]).setInt 0 (by simp; omega) who[k9])
              have HL10 : Hid (((who.set k9 who[0]).set 0 who[k9]).length = who.length) := Lib.hid (by simp)
              have HB10 : Hid (Below gw w9 ((w9.setCell ⟨gw, k9, none⟩ (.int .i64 who[0])).setCell ⟨gw, 0, none⟩ (.int .i64 who[k9]))) := Lib.hid (((Below.refl gw w9).setCell (p := ⟨gw, k9, none⟩) (Nat.le_refl _) _).setCell (p := ⟨gw, 0, none⟩) (Nat.le_refl _) _)
              generalize (who.set k9 who[0]).set 0 who[k9] = who2 at *
              generalize who[k9] = x1 at *
              generalize who[0] = x0 at *
              go_wp2
              go_ret
              exact ⟨_, c2, who2, by rw [HL10.out]; rfl, by rw [HL10.out]; exact hw7, by rw [HL10.out]; exact hwc, AwL.own HO10.out hgw, (HC9.out.keep HB10.out (by omega)).more (by omega), HT9.out.thenB (HB10.out.mono hw2)⟩
          · have d1 : decide ((1 : Int) < (who.length : Int)) = false := by simp; omega
            go_wp2
            go_ret
            exact ⟨A2, c2, who, rfl, hw7, hwc, AwL.own HoT.out hgw, HCT.out.more (by omega), HTT.out⟩

/-- What people are drawn. -/
def PsOk (D : List Psn) (c : Nat) (n : Int) : Prop := D.length ≤ 7 ∧ D.length ≤ c ∧ (0 ≤ n ∧ n ≤ 6) ∧ ∀ d ∈ D, d.name.size ≤ 3 ∧ d.x.length ≤ 6

set_option maxHeartbeats 1600000 in
theorem drawGoodPlacing_any (A : Option Addr) (c : Nat) (l : List Int) (w : World) (h : RdL w w.heap.size A 1 encByte l) (hb : ∀ x ∈ l, 0 ≤ x ∧ x < 256) (hl : l.length ≤ 9223372036854775807) :
    Calls Tryd.prog 40 #[.slice A l.length c] w fun e w' => ∃ (A1 : Option Addr) (c1 : Nat) (D : List Psn) (n : Int) (A2 : Option Addr) (c2 : Nat) (who : List Int), e = .returned (.tuple #[.slice A1 D.length c1, .int .i64 n, .slice A2 who.length c2]) ∧ PsOk D c1 n ∧ who.length ≤ 7 ∧ who.length ≤ c2 ∧ AwP w' w.heap.size A1 D ∧ AwL w' w.heap.size A2 who ∧ Below w.heap.size w w' := by
  have hcur := Lib.hid (Cur.new (c := c) h hb (Nat.le_trans hl (by omega)) 76)
  have hbw : Hid (Below w.heap.size w (w.alloc (.cells #[.slice A l.length c, .int .i64 0, .int .u64 0] 76))) := Lib.hid ((Below.refl _ _).alloc (Nat.le_refl _) _)
  have hsz : w.heap.size < (w.alloc (.cells #[.slice A l.length c, .int .i64 0, .int .u64 0] 76)).heap.size := by simp
  clear h hb
  go_enter Tryd.func40, Tryd.ntmps40
  go_upto_region 2 with fail
  generalize w.alloc (.cells #[.slice A l.length c, .int .i64 0, .int .u64 0] 76) = W at *
  go_wp2_with (first
    | (go_at_call 82; refine (people_any w.heap.size 0 _ hcur.out (by omega)).mono ?_; rintro e w1 ⟨A1, c1, D, n, rfl, h1, h2, h3, h4, hp, hc, ht⟩; have HP := Lib.hid hp; have HT := Lib.hid ht; have HC := Lib.hid hc; have H4 := Lib.hid h4; have hz1 := ht.size; clear hc ht hp h4)
    | (go_at_call 83; refine (placing_any w.heap.size 200 w1 HC.out (by omega) A1 c1 D n HP.out h1 h2 h3 H4.out).mono ?_; rintro e w2 ⟨A2, c2, who, rfl, k1, k2, hl2, hc, ht⟩; have HL2 := Lib.hid hl2; have HT2 := Lib.hid ht; clear hc ht hl2))
  go_ret3
  exact ⟨A1, c1, D, n, A2, c2, who, rfl, ⟨h1, h2, h3, H4.out⟩, k1, k2, HP.out.turn HT2.out, HL2.out, Below.chg (Below.chg hbw.out HT.out (Nat.le_refl _) (by omega)) HT2.out (Nat.le_refl _) (by omega)⟩
end Go.Proofs.YtbfhfnejppfehaaDoor
