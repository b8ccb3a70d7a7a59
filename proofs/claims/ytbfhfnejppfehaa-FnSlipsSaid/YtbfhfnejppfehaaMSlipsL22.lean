import Derived.Test.YtbfhfnejppfehaaMSlipsL18
import Derived.Test.YtbfhfnejppfehaaMSlipsL21
import Derived.Test.YtbfhfnejppfehaaRows
import Derived.Test.YtbfhfnejppfehaaMSlipsL03
import Derived.StillTailTactics
import Derived.Deep.RegionHeld3
import Derived.Test.YtbfhfnejppfehaaMSlipsL05
/-
  Drawn rows.
-/
namespace Go.Proofs.Ytbfhfnejppfehaa
open Go.RowKit
set_option linter.unusedVariables false
set_option linter.unusedSimpArgs false
set_option maxRecDepth 100000

/-- A list in memory, from block lo on. -/
def Aw {α : Type} (w : World) (lo : Nat) (A : Option Addr) (size : Nat) (enc : α → List Value) (l : List α) : Prop := RdL w w.heap.size A size enc l ∧ (l = [] ∨ ∃ g off, A = some ⟨g, off, none⟩ ∧ lo ≤ g)
section
variable {α : Type} {enc : α → List Value} {size : Nat} {A : Option Addr} {l : List α} {w w' : World} {lo g : Nat}
theorem Aw.own {b c : Nat} (h : OwnL w b c A size enc l) (henc : ∀ x, (enc x).length = size) (hb : lo ≤ b) : Aw w lo A size enc l := by
  refine ⟨h.rd henc, ?_⟩
  rcases h with h | ⟨g', f, hA, h1, h2, _⟩
  · exact .inl h
  · exact .inr ⟨g', 0, hA, by omega⟩
theorem RdL.turnG (h : RdL w w.heap.size A size enc l) (t : Turn g w w') (hne : l = [] ∨ ∃ q off, A = some ⟨q, off, none⟩ ∧ q ≠ g) : RdL w' w'.heap.size A size enc l := by
  rcases h with h | ⟨q, off, hA, hlt, hc⟩
  · exact .inl h
  · rcases hne with h | ⟨q', off', hA', hne⟩
    · exact .inl h
    · rw [hA] at hA'
      simp only [Option.some.injEq, Addr.mk.injEq, and_true] at hA'
      obtain ⟨rfl, rfl⟩ := hA'
      exact .inr ⟨q, off, hA, Nat.lt_of_lt_of_le hlt t.size, fun i hi j u hu => (t.cell (p := ⟨q, _, none⟩) hlt hne).trans (hc i hi j u hu)⟩
theorem Aw.turn (h : Aw w lo A size enc l) (t : Turn g w w') (hg : g < lo) : Aw w' lo A size enc l :=
  ⟨h.1.turnG t (h.2.imp id fun ⟨q, off, e, hq⟩ => ⟨q, off, e, by omega⟩), h.2⟩
theorem Aw.later (h : Aw w lo A size enc l) (t : Below w.heap.size w w') : Aw w' lo A size enc l := ⟨(h.1.below t (Nat.le_refl _)).more t.size, h.2⟩
theorem Aw.weak {lo' : Nat} (h : Aw w lo A size enc l) (hl : lo' ≤ lo) : Aw w lo' A size enc l := ⟨h.1, h.2.imp id fun ⟨q, off, e, hq⟩ => ⟨q, off, e, by omega⟩⟩
theorem Aw.take (h : Aw w lo A size enc l) (m : Nat) : Aw w lo A size enc (l.take m) :=
  ⟨h.1.take m, h.2.imp (fun e => by rw [e]; simp) id⟩
end
theorem own_some {w : World} {base : Nat} {e : TypeId} {A : Option Addr} {c : Nat} {l : List ByteArray} (h : Grow w base e 1 encString (.slice A l.length c) l) : OwnL w base w.heap.size A 1 encString l := by
  obtain ⟨A9, c9, e9, o9⟩ := h.own encString_len
  injection e9 with e9 _ _
  rw [e9]; exact o9
set_option maxHeartbeats 1600000 in
theorem rowsOf_any (g K n m : Nat) (w : World) (h : Cur w g K) (hK : K ≤ 10000000) (h3 : 3 ≤ n) (h8 : n ≤ 8) (hm : m ≤ 9) :
    Calls Try.prog 61 #[.pointer (some ⟨g, 0, none⟩), .int .i64 (n : Int), .int .i64 (m : Int)] w fun e w' => ∃ (l : List ByteArray) (A : Option Addr) (c : Nat), e = .returned (.slice A l.length c) ∧ l.length ≤ m ∧ l.length ≤ c ∧ (∀ r ∈ l, r.size ≤ 8) ∧ OwnL w' w.heap.size w'.heap.size A 1 encString l ∧ Cur w' g (K + 40) ∧ Turn g w w' := by
  have H := Lib.hid h
  have hgw := h.lt
  clear h
  have Hone : Hid (∀ x : ByteArray, ∀ u ∈ [Value.string x], u.oneCell' = true) := Lib.hid (by intro x u hu; simp at hu; subst hu; rfl)
  go_enter Try.func61, Try.ntmps61
  go_upto_region 3 with (go_at_call 50; refine (pick_any g K ((m : Int) + 1) _ H.out (by omega) (by omega)).mono ?_; rintro e w1 ⟨x, rfl, hx0, hx1, hc, ht⟩; have HC1 := Lib.hid hc; have HT1 := Lib.hid ht; clear hc ht; obtain ⟨k, rfl⟩ : ∃ k : Nat, x = (k : Int) := ⟨x.toNat, by omega⟩; have hk : k ≤ m := (by omega))
  go_loopw [7, 8] (fun v i wr => ∃ (j : Nat) (l : List ByteArray), i = .int .i64 (j : Int) ∧ l.length + j ≤ m ∧ Hid (∀ r ∈ l, r.size ≤ 8) ∧ Grow wr w.heap.size 9 1 encString v l ∧ Cur wr g (K + 2 + 2 * l.length) ∧ Turn g w wr) (fun _ i _ => (intOf i).toNat)
  case atStart => exact ⟨k, [], by rfl, by simpa using hk, Lib.hid (by simp), Grow.nil, HC1.out.more (by omega), HT1.out⟩
  case round =>
    obtain ⟨j, l, rfl, hj, hP, hgr, hcu, htu⟩ := hrel
    have HG := Lib.hid hgr
    have HCu := Lib.hid hcu
    have HTu := Lib.hid htu
    have hzr := htu.size
    have hl9 : l.length ≤ 9 := by omega
    clear hgr hcu htu
    by_cases hlt : 0 < j
    · go_wp2_with (first
        | (go_at_call 51; refine (row_any g _ n wr HCu.out (by omega) h3 h8).mono ?_; rintro e w4 ⟨s, rfl, hs, hc, ht⟩; have Hs := Lib.hid hs; have HC4 := Lib.hid hc; have HT4 := Lib.hid (HTu.out.trans ht); have hz4 := ht.size; have HG4 := Lib.hid (HG.out.turn ht hgw); clear hs hc ht)
        | (at_builtin; refine wpList_pushA rfl (.tmp 17) (.tmp 21) 23 rfl w.heap.size 9 _ 1 16 encString rfl String_info rfl (by omega) _ l [s] 1 rfl rfl (by simp) HG4.out rfl encString_len (Hone.out s) (by simp only [List.length_singleton]; omega) (by omega) (by omega) ?_; intro v6 w6 g6 b6 gb6 k6; have HG6 := Lib.hid g6; have HB6 := Lib.hid b6; clear g6 b6 gb6 k6))
      go_roundw
      case rel => exact ⟨j - 1, l ++ [s], by go_num, by simp; omega, Lib.hid (fun r hr => by
        rcases List.mem_append.1 hr with hr | hr
        · exact hP.out r hr
        · rw [List.mem_singleton.1 hr]; have := Hs.out; omega), HG6.out, (HC4.out.keep HB6.out hgw).more (by simp; omega), HT4.out.thenB HB6.out⟩
      case measure => simp [intOf]; omega
    · obtain rfl : j = 0 := by omega
      obtain ⟨wo, rfl⟩ : ∃ wo, wo = wr := ⟨wr, rfl⟩
      by_cases hl0 : l.length = 0
      · obtain rfl := List.eq_nil_of_length_eq_zero hl0
        obtain ⟨A, c, rfl, ho⟩ := HG.out.own encString_len
        have hcp := HG.out.capN'
        clear ho
        simp only [List.length_nil] at *
        go_wp2
        go_ret
        exact ⟨[], A, c, rfl, by simp, by simp, by simp, OwnL.nil, HCu.out.more (by omega), HTu.out⟩
      · have hl1 : 0 < l.length := by omega
        obtain ⟨gq, cap, hv, hq1, hq2, hq3⟩ := HG.out.some_ hl1
        subst hv
        go_wp2_with (go_at_call 48; refine (one_any g _ 25 wo HCu.out (by omega) (by omega)).mono ?_; rintro e w5 ⟨b5, rfl, hc5, ht5⟩; have HC5 := Lib.hid hc5; have HT5 := Lib.hid (HTu.out.trans ht5); have hz5 := ht5.size; have HG5 := Lib.hid (HG.out.turn ht5 hgw); obtain ⟨q0, f0⟩ := HG5.out.cellS 0 hl1; clear hc5 ht5; cases b5)
        · go_ret
          exact ⟨l, some ⟨gq, 0, none⟩, cap, rfl, by omega, hq3, hP.out, own_some HG5.out, HC5.out.more (by omega), HT5.out⟩
        · have HS := HG5.out.stored rfl encString_len (x := (⟨#[49]⟩ : ByteArray)) (u := .string (⟨#[49]⟩ : ByteArray)) rfl 0
          have hsl : (l.set 0 (⟨#[49]⟩ : ByteArray)).length = l.length := by simp
          have hB : Below w.heap.size w5 (w5.setCell ⟨gq, 0, none⟩ (.string (⟨#[49]⟩ : ByteArray))) := (Below.refl _ _).setCell (p := ⟨gq, 0, none⟩) hq1 _
          go_ret
          exact ⟨l.set 0 (⟨#[49]⟩ : ByteArray), some ⟨gq, 0, none⟩, cap, by rw [hsl]; rfl, by rw [hsl]; omega, by rw [hsl]; exact hq3, fun r hr => by
            rcases List.mem_or_eq_of_mem_set hr with hr | rfl
            · exact hP.out r hr
            · decide, by rw [← hsl] at HS; exact own_some HS, (HC5.out.keep hB hgw).more (by omega), HT5.out.thenB hB⟩
theorem l1LeastD_any (x y : Int) (w : World) : Calls Try.prog 102 #[.int .i64 x, .int .i64 y] w fun e w' => e = .returned (.int .i64 (if x < y then x else y)) ∧ w = w' := by
  by_cases h : x < y
  · rw [if_pos h]
    go_enter Try.func102, Try.ntmps102
    go_wp2
    go_ret
    exact ⟨rfl, rfl⟩
  · rw [if_neg h]
    go_enter Try.func102, Try.ntmps102
    go_wp2
    go_ret
    exact ⟨rfl, rfl⟩


set_option maxHeartbeats 3200000 in
theorem rows25_any (g K : Nat) (w : World) (h : Cur w g K) (hK : K ≤ 1000000) :
    Calls Try.prog 104 #[.pointer (some ⟨g, 0, none⟩)] w fun e w' => ∃ (l : List ByteArray) (A : Option Addr) (c : Nat), e = .returned (.slice A l.length c) ∧ l.length ≤ 12 ∧ l.length ≤ c ∧ (∀ r ∈ l, r.size ≤ 8) ∧ Aw w' w.heap.size A 1 encString l ∧ Cur w' g (K + 300) ∧ Turn g w w' := by
  have H := Lib.hid h
  have hgw := h.lt
  clear h
  go_enter Try.func104, Try.ntmps104
  go_upto_region 4 with (first
    | (go_at_call 48; refine (one_any g K 12 w H.out (by omega) (by omega)).mono ?_; rintro e w1 ⟨b1, rfl, hc1, ht1⟩; have HC1 := Lib.hid hc1; have HT1 := Lib.hid ht1; have hz1 := ht1.size; clear hc1 ht1; cases b1)
    | (go_at_call 49; refine (stage_any g (K + 2) w1 HC1.out (by omega)).mono ?_; rintro e w2 ⟨n, rfl, ⟨hn3, hn8⟩, hc2, ht2⟩; have HC2 := Lib.hid hc2; have HT2 := Lib.hid (HT1.out.trans ht2); have hz2 := ht2.size; clear hc2 ht2; obtain ⟨n, rfl⟩ : ∃ m : Nat, n = (m : Int) := ⟨n.toNat, by omega⟩)
    | (go_at_call 61; refine (rowsOf_any g (K + 4) n 3 w2 HC2.out (by omega) (by omega) (by omega) (by omega)).mono ?_; rintro e w3 ⟨l, A, c, rfl, hl3, hlc, hP, ho, hc3, ht3⟩; have HO3 := Lib.hid ho; have HP := Lib.hid hP; have HC3 := Lib.hid hc3; have HT3 := Lib.hid (HT2.out.trans ht3); clear ho hP hc3 ht3)
    | (go_at_call 126; refine (method_any g (K + 2) w1 HC1.out (by omega)).mono ?_; rintro e w2 ⟨nm, n, x, A, c, rfl, hok, hxc, ho, hc2, ht2⟩; have HOK := Lib.hid hok; have HO2 := Lib.hid ho; have HC2 := Lib.hid hc2; have HT2 := Lib.hid (HT1.out.trans ht2); have hz2 := ht2.size; clear hok ho hc2 ht2))
  · obtain ⟨V, hVe, hVb, m0, m1, m2, hVs⟩ : ∃ V : World, Hid (w2.alloc (.cells #[.string nm, .int .i64 n, .slice A x.length c] 144) = V) ∧ Hid (Below w2.heap.size w2 V) ∧ V.cell? ⟨w2.heap.size, 0, none⟩ = some (.string nm) ∧ V.cell? ⟨w2.heap.size, 1, none⟩ = some (.int .i64 n) ∧ V.cell? ⟨w2.heap.size, 2, none⟩ = some (.slice A x.length c) ∧ w2.heap.size < V.heap.size :=
      ⟨_, Lib.hid rfl, Lib.hid ((Below.refl _ _).alloc (Nat.le_refl _) _), by rw [World.cell?_alloc_new]; rfl, by rw [World.cell?_alloc_new]; rfl, by rw [World.cell?_alloc_new]; rfl, by simp⟩
    rw [hVe.out]
    clear hVe
    have hn3 := HOK.out.n3
    have hn6 := HOK.out.n6
    have hx0 := HOK.out.x0
    have hx9 := HOK.out.x9
    have hxsm : Hid (∀ c ∈ x, c.size ≤ 1048576) := Lib.hid (fun s hs => by have := (HOK.out.ch s hs).size; omega)
    have HCV := Lib.hid (HC2.out.later hVb.out)
    have HTV := Lib.hid (HT2.out.then hVb.out)
    have HOV := Lib.hid (HO2.out.later hVb.out)
    obtain ⟨bm, hbm⟩ : ∃ bm, Hid (w2.heap.size = bm) := ⟨_, Lib.hid rfl⟩
    rw [hbm.out] at m0 m1 m2 hVs ⊢
    have hgm : g < bm := by have := hbm.out; omega
    have hwm : w.heap.size ≤ bm := by have := hbm.out; omega
    have HCa : Hid (∀ W, Below V.heap.size V W → Calls Try.prog 128 #[.pointer (some ⟨g, 0, none⟩), .agg #[.string nm, .int .i64 n, .slice A x.length c]] W fun e w' => ∃ v, e = .returned v ∧ ∃ b s : ByteArray, v = .agg #[.string b, .string s] ∧ changeP n b ∧ changeP n s ∧ Cur w' g (K + 200) ∧ Turn g V w') := Lib.hid (fun W hb => ((calls_any g (K + 102) nm n A x.length c W ((HCV.out.later hb).more (by omega)) (by omega) ⟨hn3, hn6⟩).mono fun e w' ⟨b, s, he, h1, h2, hc, ht⟩ => ⟨_, he, b, s, rfl, h1, h2, hc.more (by omega), (Turn.of hb).trans ht⟩))
    clear HC2 HO2 HCV
    go_region_law (first
      | (refine step_callsX (by rfl) 128 (by rfl) #[.pointer (some ⟨g, 0, none⟩), .agg #[.string nm, .int .i64 n, .slice A x.length c]] (by go_simp) (HCa.out _ (by repeat (first | exact Below.refl _ _ | refine Below.drew ?_ | refine Below.alloc ?_ (Nat.le_refl _) _))) ?_; rintro v wA ⟨b, s, rfl, hb, hs, hcA, htA⟩; have Hb := Lib.hid hb; have Hs := Lib.hid hs; have HCA := Lib.hid hcA; have HTA := Lib.hid htA; have hzA := htA.size; have hsA : bm < wA.heap.size := (by omega); have n0 := (htA.cell (p := ⟨bm, 0, none⟩) hVs (by simp; omega)).trans m0; have n1 := (htA.cell (p := ⟨bm, 1, none⟩) hVs (by simp; omega)).trans m1; have n2 := (htA.cell (p := ⟨bm, 2, none⟩) hVs (by simp; omega)).trans m2; have HTou : Hid (∀ W, Below wA.heap.size wA W → Calls Try.prog 129 #[.pointer (some ⟨g, 0, none⟩), .int .i64 2] W fun e w' => ∃ v, e = .returned v ∧ ∃ t : ByteArray, v = .string t ∧ 1 ≤ t.size ∧ t.size ≤ 4 ∧ Cur w' g (K + 240) ∧ Turn g wA w') := Lib.hid (fun W hb => (touch_any g (K + 200) 2 W (hcA.later hb) (by omega) (by omega)).mono fun e w' ⟨t, he, _, h1, h2, hc, ht⟩ => ⟨_, he, t, rfl, h1, h2, hc, (Turn.of hb).trans ht⟩); clear hb hs hcA htA)
      | (refine step_callsX (by rfl) 129 (by rfl) #[.pointer (some ⟨g, 0, none⟩), .int .i64 2] (by go_simp) (HTou.out _ (by repeat (first | exact Below.refl _ _ | refine Below.drew ?_ | refine Below.alloc ?_ (Nat.le_refl _) _))) ?_; rintro v wB ⟨t, rfl, ht1, ht2, hcB, htB⟩; have HCB := Lib.hid hcB; have HTB := Lib.hid htB; have hzB := htB.size; have k0 := (htB.cell (p := ⟨bm, 0, none⟩) hsA (by simp; omega)).trans n0; have k1 := (htB.cell (p := ⟨bm, 1, none⟩) hsA (by simp; omega)).trans n1; have k2 := (htB.cell (p := ⟨bm, 2, none⟩) hsA (by simp; omega)).trans n2; have HR9 : Hid (∀ W, Below wB.heap.size wB W → Calls Try.prog 127 #[.agg #[.string nm, .int .i64 n, .slice A x.length c], .agg #[.string b, .string s], .string t] W fun e w' => ∃ v, e = .returned v ∧ ∃ (A2 : Option Addr) (c2 : Nat) (L : List ByteArray), v = .slice A2 L.length c2 ∧ L.length ≤ c2 ∧ (∀ r ∈ L, r.size ≤ 8) ∧ L.length ≤ 100 ∧ OwnL w' W.heap.size w'.heap.size A2 1 encString L ∧ Below wB.heap.size wB w' ∧ wB.heap.size ≤ W.heap.size) := Lib.hid (fun W hb => by
          have hO := ((HOV.out.chg HTA.out (.inr (by omega))).chg HTB.out (.inr (by omega))).later hb
          have := l9Rows_any nm n.toNat x A c b s t W (hO.rd encString_len) (by omega) (by omega) (by omega) hx0 hxc hxsm.out (by have := Hb.out.size; omega) (by have := Hs.out.size; omega) (by omega) (by omega)
          rw [show ((n.toNat : Nat) : Int) = n by omega] at this
          refine this.mono fun e w' ⟨A2, c2, he, h1, h2, h3⟩ => ⟨_, he, A2, c2, _, rfl, h1, fun r hr => ?_, ?_, h2, hb.trans (h3.mono hb.size), hb.size⟩
          · have := rowsTo_row (n := n.toNat) (by omega) (by omega) x b s t t.size r hr; have := this.2; omega
          · unfold touchL; rw [rowsTo_len]; exact Nat.le_trans (Nat.mul_le_mul (show t.size ≤ 4 by omega) (show x.length ≤ 12 by omega)) (by omega)); clear hcB htB)
      | (refine step_callsX (by rfl) 127 (by rfl) #[.agg #[.string nm, .int .i64 n, .slice A x.length c], .agg #[.string b, .string s], .string t] (by go_simp) (HR9.out _ (by repeat (first | exact Below.refl _ _ | refine Below.drew ?_ | refine Below.alloc ?_ (Nat.le_refl _) _))) ?_; rintro v wC ⟨A2, c2, L, rfl, hLc, hL8, hL100, hoC, hbC, hzw⟩; have HOC := Lib.hid (Aw.own hoC encString_len (show w.heap.size ≤ _ by omega)); have HL8 := Lib.hid hL8; have HBC := Lib.hid hbC; have HCC := Lib.hid (HCB.out.later hbC); have HTC := Lib.hid (((HTV.out.trans HTA.out).trans HTB.out).then hbC); clear hL8 hoC hbC hzw))
    all_goals
      clear m0 m1 m2 n0 n1 n2 k0 k1 k2
      obtain ⟨kk, hkk, hk1, hk2⟩ : ∃ kk : Nat, Hid ((if (L.length : Int) < 12 then (L.length : Int) else 12) = (kk : Int)) ∧ kk ≤ L.length ∧ kk ≤ 12 := by
        by_cases h12 : L.length < 12
        · exact ⟨L.length, Lib.hid (by rw [if_pos (by omega)]), by omega, by omega⟩
        · exact ⟨12, Lib.hid (by rw [if_neg (by omega)]; rfl), by omega, by omega⟩
      have HLe : Hid (∀ W, Calls Try.prog 102 #[.int .i64 (L.length : Int), .int .i64 12] W fun e w' => e = .returned (.int .i64 (kk : Int)) ∧ W = w') := Lib.hid (fun W => by
        have := l1LeastD_any (L.length : Int) 12 W
        rw [hkk.out] at this; exact this)
      have hkc : kk ≤ c2 := by omega
      have htl : Hid ((L.take kk).length = kk) := Lib.hid (by rw [List.length_take]; omega)
      go_wp2_with (go_at_call 102; refine (HLe.out _).mono ?_; rintro e w' ⟨rfl, rfl⟩)
      go_ret
      exact ⟨L.take kk, A2, c2, by rw [htl.out]; rfl, by rw [htl.out]; exact hk2, by rw [htl.out]; exact hkc, fun r hr => HL8.out r (List.mem_of_mem_take hr), HOC.out.take kk, HCC.out.more (by omega), HTC.out⟩
  · go_ret
    exact ⟨l, A, c, rfl, by omega, hlc, HP.out, Aw.own HO3.out encString_len (by omega), HC3.out.more (by omega), HT3.out⟩
end Go.Proofs.Ytbfhfnejppfehaa

/-
  Contracts of the helper functions that the laws use for lists of Slip.
-/
namespace Go.Proofs.Ytbfhfnejppfehaa
open Go.RowKit Go.ChangeShapes Go.WideShapes
set_option linter.unusedVariables false
set_option linter.unusedSimpArgs false
set_option maxRecDepth 100000


structure Slp where
  row : Int
  a : Int
  b : Int

def Slp.enc (x : Slp) : List Value := [.int .i64 x.row, .int .i64 x.a, .int .i64 x.b]
theorem Slp_enc_len (x : Slp) : (Slp.enc x).length = 3 := rfl
def Slip_small (lim : Int) (x : Slp) : Prop := True
theorem Slip_info : (Try.prog.info? 43).map (fun i => (i.zero, i.size, i.bytes)) = some (some (.agg #[.int .i64 0, .int .i64 0, .int .i64 0]), 3, 24) := by kernel_rfl

/-- What the marks make of a list of so many elements. -/
def markSlipL (m q : Nat) : List Slp := (List.range m).map fun i : Nat => (⟨((q + i * 3 : Nat) : Int), ((q + i * 3 + 1 : Nat) : Int), ((q + i * 3 + 2 : Nat) : Int)⟩ : Slp)
theorem markSlipL_len (m q : Nat) : (markSlipL m q).length = m := by simp [markSlipL]
theorem markSlipL_at (m q i : Nat) (hi : i < (markSlipL m q).length) : (markSlipL m q)[i] = (⟨((q + i * 3 : Nat) : Int), ((q + i * 3 + 1 : Nat) : Int), ((q + i * 3 + 2 : Nat) : Int)⟩ : Slp) := by simp [markSlipL]
end Go.Proofs.Ytbfhfnejppfehaa
/-
  A law's argument of bytes.
-/
namespace Go.Proofs.Ytbfhfnejppfehaa
open Go.RowKit Go.ChangeShapes Go.WideShapes
set_option linter.unusedVariables false
set_option linter.unusedSimpArgs false
set_option maxRecDepth 100000
def Byte_small (lim : Int) (x : Int) : Prop := 0 ≤ x ∧ x < 256
theorem Byte_el {H : Type} {en : TypeId × Value → H} {w : World} {base : Nat} {spare : Nat → Bool} {held : Bool} (n : Nat) (cs : List Value) (y : DataW H × List MemPlace) (h : DataW.trod en Try.prog w base spare held n 5 cs = some y) : ∃ x : Int, cs = encByte x ∧ Byte_small 9223372036854775807 x := by
  obtain ⟨a, rfl, _, hw⟩ := DataW.trod_int Try.underlying5 h
  refine ⟨a, rfl, ?_⟩
  simp [Lit.wf, IntKind.min, IntKind.max, IntKind.signed, IntKind.bits] at hw
  unfold Byte_small; omega
end Go.Proofs.Ytbfhfnejppfehaa
