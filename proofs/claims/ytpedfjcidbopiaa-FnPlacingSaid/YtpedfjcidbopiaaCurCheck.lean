/-
  The drawn arguments of CheckPlacing.
-/
import Derived.Test.YtpedfjcidbopiaaCurPlace
namespace Go.Proofs.Ytpedfjcidbopiaa
open Go.RowKit
set_option linter.unusedVariables false
set_option linter.unusedSimpArgs false
set_option maxRecDepth 100000


theorem RdL.takeN {α : Type} {w : World} {b : Nat} {A : Option Addr} {size : Nat} {enc : α → List Value} {l : List α} (h : RdL w b A size enc l) (m : Nat) : RdL w b A size enc (l.take m) := by
  rcases h with h | ⟨g, off, hA, hg, hc⟩
  · exact .inl (by subst h; simp)
  · refine .inr ⟨g, off, hA, hg, fun i hi j u hu => hc i (by simp at hi; omega) j u ?_⟩
    rw [List.getElem_take] at hu; exact hu
theorem RdL.drop {α : Type} {w : World} {b : Nat} {A : Option Addr} {size : Nat} {enc : α → List Value} {l : List α} (h : RdL w b A size enc l) (k : Nat) : RdL w b (Option.map (fun x => x.add (k * size)) A) size enc (l.drop k) := by
  rcases h with h | ⟨g, off, rfl, hg, hc⟩
  · exact .inl (by subst h; simp)
  · refine .inr ⟨g, off + k * size, ?_, hg, fun i hi j u hu => ?_⟩
    · simp only [Option.map_some]; unfold Addr.add; split <;> simp_all
    · have hk : k + i < l.length := by simp at hi; omega
      have := hc (k + i) hk j u (by rw [List.getElem_drop] at hu; exact hu)
      rw [show off + k * size + (i * size + j) = off + ((k + i) * size + j) by rw [Nat.add_mul]; omega]
      exact this
/-- A reader of the rest of a list of bytes. -/
theorem Cur.rest {w : World} {A : Option Addr} {l : List Int} (h : RdL w w.heap.size A 1 encByte l) (hb : ∀ x ∈ l, 0 ≤ x ∧ x < 256) (hl : l.length ≤ 9223372036854775807) (k c c' : Nat) (t : TypeId) :
    Cur (w.alloc (.cells #[.slice (if c = k then A else Option.map (fun x => x.add k) A) (l.length - k) c', .int .i64 0, .int .u64 0] t)) w.heap.size 0 := by
  by_cases hc : c = k
  · rw [if_pos hc]
    have := Cur.new (c := c') (h.takeN (l.length - k)) (fun x hx => hb x (List.mem_of_mem_take hx)) (by simp; omega) t
    rw [List.length_take, Nat.min_eq_left (by omega)] at this
    exact this
  · rw [if_neg hc]
    have h2 := h.drop k
    rw [Nat.mul_one] at h2
    have := Cur.new (c := c') h2 (fun x hx => hb x (List.mem_of_mem_drop hx)) (by simp; omega) t
    rw [List.length_drop] at this
    exact this
theorem sPrices_tf (D : List Psn) (A : Option Addr) (c : Nat) (n : Int) (w : World) (h : RdP w w.heap.size A (D.map Psn.key)) (h7 : D.length ≤ 7) (hc : D.length ≤ c) (hs : ∀ d ∈ D, d.name.size ≤ 3 ∧ d.x.length ≤ 6) :
    ∃ b : Bool, Calls Try.prog 10 #[.slice A D.length c, .int .i64 n] w fun e w' => ∃ (A2 : Option Addr) (c2 : Nat) (ps : List Int), e = .returned (.tuple #[.slice A2 ps.length c2, .bool b]) ∧ ps.length ≤ 7 ∧ Grow w' w.heap.size 3 1 encInt (.slice A2 ps.length c2) ps ∧ Below w.heap.size w w' := by
  by_cases hp : bestP (D.map Psn.key) n
  · refine ⟨true, ?_⟩
    have := sPricesG_t (D.map Psn.key) A c n w h (by simp; omega) (by simpa using hc) (small_ps hs) hp
    rw [List.length_map] at this
    exact this.mono fun e w' ⟨A2, c2, h1, h3, h4⟩ => ⟨A2, c2, _, h1, prL_bd hp _ _, h3, h4⟩
  · refine ⟨false, ?_⟩
    have := sPrices_f (D.map Psn.key) A c n w h (by simp; omega) (by simpa using hc) (small_ps hs) hp
    rw [List.length_map] at this
    exact this.mono fun e w' ⟨h1, h4⟩ => ⟨none, 0, [], h1, by simp, Grow.nil, h4⟩
theorem results_tmp4 {fn : Func} {t u v x : Tmp} (h : fn.results = #[.tmp t, .tmp u, .tmp v, .tmp x]) (tmps : Array Value) (P : Program) (w : World) :
    (results fn tmps).run P w = .ok (.tuple #[tmps.getD t undef, tmps.getD u undef, tmps.getD v undef, tmps.getD x undef]) w := by
  simp [results, h, Result.ok, pure, Sem.run]




set_option maxHeartbeats 1600000 in
theorem drawCheckPlacing_any (A : Option Addr) (c : Nat) (l : List Int) (w : World) (h : RdL w w.heap.size A 1 encByte l) (hb : ∀ x ∈ l, 0 ≤ x ∧ x < 256) (hl : l.length ≤ 9223372036854775807) :
    Calls Try.prog 11 #[.slice A l.length c] w fun e w' => ∃ (A1 : Option Addr) (c1 : Nat) (D : List Psn) (n : Int) (A2 : Option Addr) (c2 : Nat) (who : List Int) (A3 : Option Addr) (c3 : Nat) (ps : List Int), e = .returned (.tuple #[.slice A1 D.length c1, .int .i64 n, .slice A2 who.length c2, .slice A3 ps.length c3]) ∧ PsOk D c1 n ∧ who.length ≤ 7 ∧ who.length ≤ c2 ∧ ps.length ≤ 9 ∧ RdP w' w'.heap.size A1 (D.map Psn.key) ∧ RdL w' w'.heap.size A2 1 encInt who ∧ RdL w' w'.heap.size A3 1 encInt ps ∧ Below w.heap.size w w' := by
  have HDG := Lib.hid (drawGoodPlacing_any A c l w h hb hl)
  have H := Lib.hid h
  have Hb := Lib.hid hb
  clear h hb
  go_enter Try.func11, Try.ntmps11
  go_upto_region 2 with (go_at_call 53; refine HDG.out.mono ?_; rintro e w1 ⟨A1, c1, D, n, A2, c2, who, rfl, hps, k1, k2, hp, hl2, hb1⟩; have HP := Lib.hid hp.rdP; have HL := Lib.hid hl2.1; have HB1 := Lib.hid hb1; have HA := Lib.hid hps; clear hp hl2 hb1 hps)
  go_upto_region 3 with fail
  have hD7 : D.length ≤ 7 := HA.out.1
  have HCn := Lib.hid (Cur.rest ((H.out.below HB1.out (Nat.le_refl _)).more HB1.out.size) Hb.out hl (l.length / 2) c (c - l.length / 2) 89)
  generalize (if c = l.length / 2 then A else Option.map (fun x => x.add (l.length / 2)) A) = A9 at HCn ⊢
  obtain ⟨W2, hW2, HC2, HB2, hg2⟩ : ∃ W2 : World, Hid (w1.alloc (.cells #[.slice A9 (l.length - l.length / 2) (c - l.length / 2), .int .i64 0, .int .u64 0] 89) = W2) ∧ Hid (Cur W2 w1.heap.size 0) ∧ Hid (Below w1.heap.size w1 W2) ∧ w1.heap.size < W2.heap.size :=
    ⟨_, Lib.hid rfl, HCn, Lib.hid ((Below.refl _ _).alloc (Nat.le_refl _) _), by simp⟩
  rw [hW2.out]
  have hg2e : w1.heap.size ≤ W2.heap.size := by omega
  obtain ⟨b, hB⟩ := sPrices_tf D A1 c1 n W2 ((HP.out.below HB2.out (Nat.le_refl _)).more HB2.out.size) HA.out.1 HA.out.2.1 HA.out.2.2.2
  have HB := Lib.hid hB
  clear hB hW2 HCn
  cases b
  · go_upto_region 7 with (go_at_call 10; refine HB.out.mono ?_; rintro e wS ⟨A3, c3, ps3, rfl, h37, ho3, hb3⟩; have HCS := Lib.hid ((HC2.out.later hb3).more (show 0 ≤ 2 by omega)); have HTS := Lib.hid (Turn.of (g := w1.heap.size) hb3); have hzS := hb3.size; clear ho3 hb3)
    skip
    go_loopw [10, 39] (fun v i wr => ∃ (k : Nat) (xs : List Int), i = .int .i64 (k : Int) ∧ k ≤ D.length ∧ xs.length = k ∧ Grow wr W2.heap.size 3 1 encInt v xs ∧ Cur wr w1.heap.size (2 + 2 * k) ∧ Turn w1.heap.size W2 wr) (fun _ i _ => D.length - (intOf i).toNat)
    case atStart => exact ⟨0, [], by rfl, by omega, rfl, Grow.nil, HCS.out, HTS.out⟩
    case round =>
      obtain ⟨k, xs, rfl, hkn, hxl, hgr, hcu, htu⟩ := hrel
      have HGr := Lib.hid hgr
      have HCu := Lib.hid hcu
      have HTu := Lib.hid htu
      have Hxl := Lib.hid hxl
      have hx6 : xs.length ≤ 7 := by omega
      have hszr := htu.size
      clear hgr hcu htu hxl
      by_cases hlt : k < D.length
      · go_wp2_with (first
          | (go_at_call 55; refine (among_any w1.heap.size (2 + 2 * k) wr.heap.size 4 4 _ (fun _ => True) _ (HCu.out.later ((Below.refl _ _).alloc (Nat.le_refl _) _)) (by omega) (by omega) (by omega) (Cells.lit wr _ _ 4 rfl) (by have := HCu.out.lt; omega) (by intro k hk; rcases k with _ | _ | _ | _ | k <;> first | exact ⟨_, rfl, trivial⟩ | omega)).mono ?_; rintro e w5 ⟨x, rfl, _, hc, ht⟩; have HC5 := Lib.hid hc; have HT5 := Lib.hid (HTu.out.trans ((Turn.of ((Below.refl _ _).alloc (Nat.le_refl _) _)).trans ht)); have hz5 := HT5.out.size; have HG5 := Lib.hid (HGr.out.turn ((Turn.of ((Below.refl _ _).alloc (Nat.le_refl _) _)).trans ht) hg2); clear hc ht)
          | (at_builtin; refine wpList_pushA rfl (.tmp 41) (.tmp 45) 26 rfl W2.heap.size 3 _ 1 8 encInt rfl Int_info rfl (by omega) u10 xs [x] 1 rfl rfl (by simp) HG5.out rfl encInt_len (by simp [Value.oneCell']) (by simp only [List.length_singleton]; omega) (by omega) (by omega) ?_; intro av aw ag ab agb ak))
        have HAg := Lib.hid ag
        have HAb := Lib.hid ab
        clear ag ab agb ak
        go_roundw
        case rel => exact ⟨k + 1, xs ++ [x], by go_num, by omega, by have := Hxl.out; simp; omega, HAg.out, (HC5.out.keep HAb.out hg2).more (by omega), HT5.out.thenB HAb.out⟩
        case measure => simp [intOf]; omega
      · obtain ⟨A3, c3, hv, ho⟩ := HGr.out.own encInt_len
        subst hv
        obtain ⟨wT, rfl⟩ : ∃ wT, wT = wr := ⟨wr, rfl⟩
        obtain ⟨ps, rfl⟩ : ∃ ps, ps = xs := ⟨xs, rfl⟩
        have hp7 : ps.length ≤ 7 := by omega
        have HG := HGr
        have HCT : Hid (Cur wT w1.heap.size 60) := Lib.hid (HCu.out.more (by omega))
        have HTT := HTu
        clear ho HGr HCu HTu Hxl hx6
        go_upto_region 10 with fail
        go_upto_region 11 with (go_at_call 54; refine (one_any w1.heap.size 60 16 wT HCT.out (by omega) (by omega)).mono ?_; rintro e w8 ⟨b8, rfl, hc8, ht8⟩; have HC8 := Lib.hid hc8; have HT8 := Lib.hid (HTT.out.trans ht8); have hz8 := ht8.size; have HG8 := Lib.hid (HG.out.turn ht8 hg2); clear hc8 ht8; cases b8)
        · refine bodyPost_ret (results_tmp4 rfl _ _ _) rfl ?_
          have hend := Below.chg HB2.out HT8.out (Nat.le_refl _) hg2e
          refine ⟨A1, c1, D, n, A2, c2, who, A3, c3, ps, rfl, HA.out, k1, k2, by omega, (HP.out.below hend (Nat.le_refl _)).more hend.size, (HL.out.below hend (Nat.le_refl _)).more hend.size, ?_, HB1.out.trans (hend.mono HB1.out.size)⟩
          obtain ⟨A9, c9, e9, ho9⟩ := HG8.out.own encInt_len
          injection e9 with e9 _ _; rw [e9]; exact ho9.rd encInt_len
        · go_wp2_with (first
            | (go_at_call 55; refine (among_any w1.heap.size 62 w8.heap.size 3 3 _ (fun _ => True) _ (HC8.out.later ((Below.refl _ _).alloc (Nat.le_refl _) _)) (by omega) (by omega) (by omega) (Cells.lit w8 _ _ 3 rfl) (by have := HC8.out.lt; omega) (by intro k hk; rcases k with _ | _ | _ | k <;> first | exact ⟨_, rfl, trivial⟩ | omega)).mono ?_; rintro e w9 ⟨x, rfl, _, hc, ht⟩; have HT9 := Lib.hid (HT8.out.trans ((Turn.of ((Below.refl _ _).alloc (Nat.le_refl _) _)).trans ht)); have hz9 := HT9.out.size; have HG9 := Lib.hid (HG8.out.turn ((Turn.of ((Below.refl _ _).alloc (Nat.le_refl _) _)).trans ht) hg2); clear hc ht)
            | (at_builtin; refine wpList_pushA rfl (.tmp 50) (.tmp 54) 26 rfl W2.heap.size 3 _ 1 8 encInt rfl Int_info rfl (by omega) (.slice A3 ps.length c3) ps [x] 1 rfl rfl (by simp) HG9.out rfl encInt_len (by simp [Value.oneCell']) (by simp only [List.length_singleton]; omega) (by omega) (by omega) ?_; intro av aw ag ab agb ak))
          obtain ⟨A9, c9, e9, ho9⟩ := ag.own encInt_len
          subst e9
          refine bodyPost_ret (results_tmp4 rfl _ _ _) rfl ?_
          have hend := (Below.chg HB2.out HT9.out (Nat.le_refl _) hg2e).trans (ab.mono (by omega))
          exact ⟨A1, c1, D, n, A2, c2, who, A9, c9, ps ++ [x], rfl, HA.out, k1, k2, by simp; omega, (HP.out.below hend (Nat.le_refl _)).more hend.size, (HL.out.below hend (Nat.le_refl _)).more hend.size, ho9.rd encInt_len, HB1.out.trans (hend.mono HB1.out.size)⟩
  · go_upto_region 10 with (first
      | (go_at_call 10; refine HB.out.mono ?_; rintro e w3 ⟨A3, c3, ps, rfl, hp7, ho3, hb3⟩; have HC3 := Lib.hid (HC2.out.later hb3); have HT3 := Lib.hid (Turn.of (g := w1.heap.size) hb3); have hz3 := hb3.size; have HG3 := Lib.hid ho3; clear ho3 hb3)
      | (go_at_call 54; refine (one_any w1.heap.size 0 3 w3 HC3.out (by omega) (by omega)).mono ?_; rintro e wS ⟨b8, rfl, hc8, ht8⟩; have HCS := Lib.hid hc8; have HTS := Lib.hid (HT3.out.trans ht8); have hzS := ht8.size; have HGS := Lib.hid (HG3.out.turn ht8 hg2); clear hc8 ht8; cases b8))
    · obtain ⟨wT, rfl⟩ : ∃ wT, wT = wS := ⟨wS, rfl⟩
      have HG := HGS
      have HCT : Hid (Cur wT w1.heap.size 60) := Lib.hid (HCS.out.more (by omega))
      have HTT := HTS
      clear HGS HCS HTS
      go_upto_region 11 with (go_at_call 54; refine (one_any w1.heap.size 60 16 wT HCT.out (by omega) (by omega)).mono ?_; rintro e w8 ⟨b8, rfl, hc8, ht8⟩; have HC8 := Lib.hid hc8; have HT8 := Lib.hid (HTT.out.trans ht8); have hz8 := ht8.size; have HG8 := Lib.hid (HG.out.turn ht8 hg2); clear hc8 ht8; cases b8)
      · refine bodyPost_ret (results_tmp4 rfl _ _ _) rfl ?_
        have hend := Below.chg HB2.out HT8.out (Nat.le_refl _) hg2e
        refine ⟨A1, c1, D, n, A2, c2, who, A3, c3, ps, rfl, HA.out, k1, k2, by omega, (HP.out.below hend (Nat.le_refl _)).more hend.size, (HL.out.below hend (Nat.le_refl _)).more hend.size, ?_, HB1.out.trans (hend.mono HB1.out.size)⟩
        obtain ⟨A9, c9, e9, ho9⟩ := HG8.out.own encInt_len
        injection e9 with e9 _ _; rw [e9]; exact ho9.rd encInt_len
      · go_wp2_with (first
          | (go_at_call 55; refine (among_any w1.heap.size 62 w8.heap.size 3 3 _ (fun _ => True) _ (HC8.out.later ((Below.refl _ _).alloc (Nat.le_refl _) _)) (by omega) (by omega) (by omega) (Cells.lit w8 _ _ 3 rfl) (by have := HC8.out.lt; omega) (by intro k hk; rcases k with _ | _ | _ | k <;> first | exact ⟨_, rfl, trivial⟩ | omega)).mono ?_; rintro e w9 ⟨x, rfl, _, hc, ht⟩; have HT9 := Lib.hid (HT8.out.trans ((Turn.of ((Below.refl _ _).alloc (Nat.le_refl _) _)).trans ht)); have hz9 := HT9.out.size; have HG9 := Lib.hid (HG8.out.turn ((Turn.of ((Below.refl _ _).alloc (Nat.le_refl _) _)).trans ht) hg2); clear hc ht)
          | (at_builtin; refine wpList_pushA rfl (.tmp 50) (.tmp 54) 26 rfl W2.heap.size 3 _ 1 8 encInt rfl Int_info rfl (by omega) (.slice A3 ps.length c3) ps [x] 1 rfl rfl (by simp) HG9.out rfl encInt_len (by simp [Value.oneCell']) (by simp only [List.length_singleton]; omega) (by omega) (by omega) ?_; intro av aw ag ab agb ak))
        obtain ⟨A9, c9, e9, ho9⟩ := ag.own encInt_len
        subst e9
        refine bodyPost_ret (results_tmp4 rfl _ _ _) rfl ?_
        have hend := (Below.chg HB2.out HT9.out (Nat.le_refl _) hg2e).trans (ab.mono (by omega))
        exact ⟨A1, c1, D, n, A2, c2, who, A9, c9, ps ++ [x], rfl, HA.out, k1, k2, by simp; omega, (HP.out.below hend (Nat.le_refl _)).more hend.size, (HL.out.below hend (Nat.le_refl _)).more hend.size, ho9.rd encInt_len, HB1.out.trans (hend.mono HB1.out.size)⟩
    · clear HGS HG3
      skip
      go_loopw [10, 39] (fun v i wr => ∃ (k : Nat) (xs : List Int), i = .int .i64 (k : Int) ∧ k ≤ D.length ∧ xs.length = k ∧ Grow wr W2.heap.size 3 1 encInt v xs ∧ Cur wr w1.heap.size (2 + 2 * k) ∧ Turn w1.heap.size W2 wr) (fun _ i _ => D.length - (intOf i).toNat)
      case atStart => exact ⟨0, [], by rfl, by omega, rfl, Grow.nil, HCS.out, HTS.out⟩
      case round =>
        obtain ⟨k, xs, rfl, hkn, hxl, hgr, hcu, htu⟩ := hrel
        have HGr := Lib.hid hgr
        have HCu := Lib.hid hcu
        have HTu := Lib.hid htu
        have Hxl := Lib.hid hxl
        have hx6 : xs.length ≤ 7 := by omega
        have hszr := htu.size
        clear hgr hcu htu hxl
        by_cases hlt : k < D.length
        · go_wp2_with (first
            | (go_at_call 55; refine (among_any w1.heap.size (2 + 2 * k) wr.heap.size 4 4 _ (fun _ => True) _ (HCu.out.later ((Below.refl _ _).alloc (Nat.le_refl _) _)) (by omega) (by omega) (by omega) (Cells.lit wr _ _ 4 rfl) (by have := HCu.out.lt; omega) (by intro k hk; rcases k with _ | _ | _ | _ | k <;> first | exact ⟨_, rfl, trivial⟩ | omega)).mono ?_; rintro e w5 ⟨x, rfl, _, hc, ht⟩; have HC5 := Lib.hid hc; have HT5 := Lib.hid (HTu.out.trans ((Turn.of ((Below.refl _ _).alloc (Nat.le_refl _) _)).trans ht)); have hz5 := HT5.out.size; have HG5 := Lib.hid (HGr.out.turn ((Turn.of ((Below.refl _ _).alloc (Nat.le_refl _) _)).trans ht) hg2); clear hc ht)
            | (at_builtin; refine wpList_pushA rfl (.tmp 41) (.tmp 45) 26 rfl W2.heap.size 3 _ 1 8 encInt rfl Int_info rfl (by omega) u10 xs [x] 1 rfl rfl (by simp) HG5.out rfl encInt_len (by simp [Value.oneCell']) (by simp only [List.length_singleton]; omega) (by omega) (by omega) ?_; intro av aw ag ab agb ak))
          have HAg := Lib.hid ag
          have HAb := Lib.hid ab
          clear ag ab agb ak
          go_roundw
          case rel => exact ⟨k + 1, xs ++ [x], by go_num, by omega, by have := Hxl.out; simp; omega, HAg.out, (HC5.out.keep HAb.out hg2).more (by omega), HT5.out.thenB HAb.out⟩
          case measure => simp [intOf]; omega
        · obtain ⟨A3, c3, hv, ho⟩ := HGr.out.own encInt_len
          subst hv
          obtain ⟨wT, rfl⟩ : ∃ wT, wT = wr := ⟨wr, rfl⟩
          obtain ⟨ps, rfl⟩ : ∃ ps, ps = xs := ⟨xs, rfl⟩
          have hp7 : ps.length ≤ 7 := by omega
          have HG := HGr
          have HCT : Hid (Cur wT w1.heap.size 60) := Lib.hid (HCu.out.more (by omega))
          have HTT := HTu
          clear ho HGr HCu HTu Hxl hx6
          go_upto_region 10 with fail
          go_upto_region 11 with (go_at_call 54; refine (one_any w1.heap.size 60 16 wT HCT.out (by omega) (by omega)).mono ?_; rintro e w8 ⟨b8, rfl, hc8, ht8⟩; have HC8 := Lib.hid hc8; have HT8 := Lib.hid (HTT.out.trans ht8); have hz8 := ht8.size; have HG8 := Lib.hid (HG.out.turn ht8 hg2); clear hc8 ht8; cases b8)
          · refine bodyPost_ret (results_tmp4 rfl _ _ _) rfl ?_
            have hend := Below.chg HB2.out HT8.out (Nat.le_refl _) hg2e
            refine ⟨A1, c1, D, n, A2, c2, who, A3, c3, ps, rfl, HA.out, k1, k2, by omega, (HP.out.below hend (Nat.le_refl _)).more hend.size, (HL.out.below hend (Nat.le_refl _)).more hend.size, ?_, HB1.out.trans (hend.mono HB1.out.size)⟩
            obtain ⟨A9, c9, e9, ho9⟩ := HG8.out.own encInt_len
            injection e9 with e9 _ _; rw [e9]; exact ho9.rd encInt_len
          · go_wp2_with (first
              | (go_at_call 55; refine (among_any w1.heap.size 62 w8.heap.size 3 3 _ (fun _ => True) _ (HC8.out.later ((Below.refl _ _).alloc (Nat.le_refl _) _)) (by omega) (by omega) (by omega) (Cells.lit w8 _ _ 3 rfl) (by have := HC8.out.lt; omega) (by intro k hk; rcases k with _ | _ | _ | k <;> first | exact ⟨_, rfl, trivial⟩ | omega)).mono ?_; rintro e w9 ⟨x, rfl, _, hc, ht⟩; have HT9 := Lib.hid (HT8.out.trans ((Turn.of ((Below.refl _ _).alloc (Nat.le_refl _) _)).trans ht)); have hz9 := HT9.out.size; have HG9 := Lib.hid (HG8.out.turn ((Turn.of ((Below.refl _ _).alloc (Nat.le_refl _) _)).trans ht) hg2); clear hc ht)
              | (at_builtin; refine wpList_pushA rfl (.tmp 50) (.tmp 54) 26 rfl W2.heap.size 3 _ 1 8 encInt rfl Int_info rfl (by omega) (.slice A3 ps.length c3) ps [x] 1 rfl rfl (by simp) HG9.out rfl encInt_len (by simp [Value.oneCell']) (by simp only [List.length_singleton]; omega) (by omega) (by omega) ?_; intro av aw ag ab agb ak))
            obtain ⟨A9, c9, e9, ho9⟩ := ag.own encInt_len
            subst e9
            refine bodyPost_ret (results_tmp4 rfl _ _ _) rfl ?_
            have hend := (Below.chg HB2.out HT9.out (Nat.le_refl _) hg2e).trans (ab.mono (by omega))
            exact ⟨A1, c1, D, n, A2, c2, who, A9, c9, ps ++ [x], rfl, HA.out, k1, k2, by simp; omega, (HP.out.below hend (Nat.le_refl _)).more hend.size, (HL.out.below hend (Nat.le_refl _)).more hend.size, ho9.rd encInt_len, HB1.out.trans (hend.mono HB1.out.size)⟩
end Go.Proofs.Ytpedfjcidbopiaa
