/-
  PricesFor of the program returns what the reference's returns, for all arguments: no condition.
-/
import Derived.Test.YtpedfjcidbopiaaPricesI
import Derived.Test.YtpedfjcidbopiaaFaPricesFor
namespace Go.Proofs.Ytpedfjcidbopiaa
open Go.RowKit
set_option linter.unusedVariables false
set_option linter.unusedSimpArgs false
set_option maxRecDepth 100000

theorem l1Most_any (x y : Int) (w : World) : Calls Try.prog 52 #[.int .i64 x, .int .i64 y] w fun e w' => e = .returned (.int .i64 (max x y)) ∧ w' = w := by
  by_cases h : x < y
  · have h' : ¬ y < x := by omega
    have e : max x y = y := by omega
    have E := Lib.hid e
    rw [e]
    clear e
    go_enter Try.func52, Try.ntmps52
    go_wp2
    go_ret
    exact ⟨rfl, rfl⟩
  · have e : max x y = x := by omega
    rw [e]
    clear e
    by_cases h' : y < x
    · go_enter Try.func52, Try.ntmps52
      go_wp2
      go_ret
      exact ⟨rfl, rfl⟩
    · obtain rfl : x = y := by omega
      go_enter Try.func52, Try.ntmps52
      go_wp2
      go_ret
      exact ⟨rfl, rfl⟩





/-- A block of n integers. -/
def Blk (w : World) (g n : Nat) : Prop := ∃ cur, w.heap[g]? = some (.cells cur 3 (0, 0)) ∧ cur.size = n
theorem Blk.later {w w' : World} {g n : Nat} (h : Blk w g n) (hb : Below w.heap.size w w') : Blk w' g n := by
  obtain ⟨cur, h1, h2⟩ := h
  have hlt : g < w.heap.size := by
    rcases Nat.lt_or_ge g w.heap.size with x | x
    · exact x
    · rw [Array.getElem?_eq_none x] at h1; cases h1
  exact ⟨cur, (hb.block g hlt).trans h1, h2⟩
theorem Blk.setCell {w : World} {g n : Nat} (h : Blk w g n) (i : Nat) (u : Value) : Blk (w.setCell ⟨g, i, none⟩ u) g n := by
  obtain ⟨cur, h1, h2⟩ := h
  exact ⟨_, heap_setCell_same w g i cur _ u h1, by simpa using h2⟩
/-- A block that its list fills: as append finds it. -/
theorem OwnL.grow {w : World} {b c g base : Nat} {q : List Int} (h : OwnL w b c (some ⟨g, 0, none⟩) 1 encInt q) (hk : Blk w g q.length) (hb : base ≤ g) (hl : q.length ≤ 1048576) (h0 : 0 < q.length) : Grow w base 3 1 encInt (.slice (some ⟨g, 0, none⟩) q.length q.length) q := by
  obtain ⟨cur, h1, h2⟩ := hk
  refine ⟨flat_len encInt_len q, .inr ⟨g, q.length, cur, rfl, hb, h1, Nat.le_refl _, by unfold maxLen; omega, by omega, ?_⟩⟩
  apply List.ext_getElem?
  intro i
  by_cases hi : i < q.length
  · obtain ⟨hc, _⟩ := h.cellInt i hi
    rw [cell_of_row w g i cur _ (0, 0) h1] at hc
    rw [List.getElem?_take_of_lt (by omega)]
    have := flat_at encInt_len q i hi 0 (.int .i64 q[i]) rfl
    rw [Nat.mul_one, Nat.add_zero] at this
    rw [this]
    simpa using hc
  · have hf := flat_len encInt_len q
    rw [List.getElem?_eq_none (by simp; omega), List.getElem?_eq_none (by omega)]
theorem blk_of {w : World} {g m : Nat} {z : Value} (h : w.ownsRow g 3 1 (.slice (some ⟨g, 0, none⟩) m m) m (List.replicate m z)) : Blk w g m := by
  rcases h.2 with ⟨h1, _⟩ | ⟨q, cap, cur, h1, h2, h3, h4, h5, h6, _⟩
  · cases h1
  · injection h1 with e1 _ e2
    injection e1 with e1
    injection e1 with e1 _ _
    subst e1 e2
    exact ⟨cur, h3, by omega⟩
set_option maxHeartbeats 6400000 in
theorem sPricesG_t (l : List Pk) (A : Option Addr) (c : Nat) (n : Int) (w : World) (h : RdP w w.heap.size A l) (hl : l.length ≤ 1048576) (hc : l.length ≤ c) (hs : ∀ x ∈ l, Person_small 1048576 x) (hp : bestP l n) :
    Calls Try.prog 10 #[.slice A l.length c, .int .i64 n] w fun e w' => ∃ A2 c2, e = .returned (.tuple #[.slice A2 (prL l (best l n.toNat []) n.toNat).length c2, .bool true]) ∧ Grow w' w.heap.size 3 1 encInt (.slice A2 (prL l (best l n.toNat []) n.toNat).length c2) (prL l (best l n.toNat []) n.toNat) ∧ Below w.heap.size w w' := by
  have hN : ((n.toNat : Nat) : Int) = n := by have := hp.1.1.1; omega
  obtain ⟨hse, hyl, hopt⟩ := best_optS (N := n.toNat) hp.1 hN hp.2
  have hn7 : n.toNat ≤ 7 := by have := hp.1.1.2; omega
  have hn3 : 3 ≤ n.toNat := by have := hp.1.1.1; omega
  have hnl : n.toNat ≤ l.length := by have := hp.1.2.1.1; omega
  have hm7 : l.length ≤ 7 := hp.1.len
  have Hbest := Lib.hid (sBest_t l A c n w h hl hc hs hp)
  have HPe := Lib.hid hp.1
  generalize best l n.toNat [] = y at *
  generalize n.toNat = N at *
  have HRd := Lib.hid h
  have Hse := Lib.hid hse
  have Hyl := Lib.hid hyl
  have Hopt := Lib.hid hopt
  have HNn := Lib.hid hN
  have hy7 : y.length ≤ 7 := by omega
  have hy3 : 3 ≤ y.length := by omega
  have hlen := prL_len l y N
  have Hlen := Lib.hid hlen
  obtain ⟨D, hD, hr, hi⟩ := h
  have HD := Lib.hid hD
  have hDl : D.length = l.length := by rw [← hD]; simp
  have HDl := Lib.hid hDl
  have hst : Hid (∀ (b : Nat) (hb : b < y.length), ∃ (i : Nat) (hi : i < D.length) (hx : b < D[i].x.length), y[b] = (i : Int) ∧ wv y b = i ∧ sv l i b = D[i].x[b] ∧ D[i].x[b] ≤ 9 ∧ 0 ≤ D[i].x[b]) := Lib.hid (fun b hb => by
    obtain ⟨i, h1, h2, h3, h4, h5⟩ := seats_at HPe.out (by omega) hse hb
    have hi : i < D.length := by omega
    obtain ⟨h6, h7, h8⟩ := people_skill HPe.out h1 (b := b) (by omega)
    have hx : b < D[i].x.length := by rw [← hD, skAt_key hi] at h6; exact h6
    have he : sv l i b = D[i].x[b] := by unfold sv; rw [← hD, skAt_key hi]; simp [hx]
    simp only [← hD, skAt_key hi] at h7 h8
    exact ⟨i, hi, hx, h2, by unfold wv; rw [getD_get hb, h2, Int.toNat_natCast], he, h8, h7⟩)
  have hsk : Hid (∀ (i : Nat) (hi : i < D.length), D[i].x.length = N) := Lib.hid (fun i hi => by have := HPe.out.sk (i := i) (by omega); rw [← hD, skAt_key hi] at this; omega)
  have hs9 : Hid (∀ (i b : Nat) (hi : i < D.length) (hb : b < D[i].x.length), 0 ≤ D[i].x[b] ∧ D[i].x[b] ≤ 9 ∧ sv l i b = D[i].x[b]) := Lib.hid (fun i b hi hb => by
    have hl : D[i].x.length = N := hsk.out i hi
    obtain ⟨h6, h7, h8⟩ := people_skill HPe.out (i := i) (b := b) (by omega) (by omega)
    simp only [← hD, skAt_key hi] at h7 h8
    exact ⟨h7, h8, by unfold sv; rw [← hD, skAt_key hi]; simp [hb]⟩)
  obtain ⟨m, hm⟩ : ∃ m, Hid (l.length = m) := ⟨_, Lib.hid rfl⟩
  rw [hm.out] at hnl hm7 hDl hl hc Hbest ⊢
  obtain ⟨g, off, rfl, hg, hcd⟩ := people_cells hr (by omega)
  have Hi := Lib.hid hi
  have Hcd := Lib.hid hcd
  clear hr hi hcd hse hyl hopt hN hlen hD hp hs
  go_enter Try.func10, Try.ntmps10
  go_wp2_with (first | (go_at_call 8; refine Hbest.out.mono ?_; rintro e w2 ⟨A2, c2, rfl, hoy, hb2⟩; have HoY := Lib.hid hoy; have HB2 := Lib.hid hb2; have hs2 := hb2.size; clear hoy hb2) | (refine wpList_make_cells rfl 26 _ rfl 3 _ 8 rfl Int_info rfl .i64 m rfl (by omega) (by omega) ?_; intro w3 hc3 hb3 hk3; have HC3 := Lib.hid hc3; have HB3 := Lib.hid hb3; have HK3 : Hid (Blk w3 w2.heap.size m) := Lib.hid (blk_of hk3); clear hc3 hb3 hk3))
  have HO3 : Hid (OwnL w3 w2.heap.size (w2.heap.size + 1) (some ⟨w2.heap.size, 0, none⟩) 1 encInt (List.replicate l.length (0 : Int))) := Lib.hid (.inr ⟨w2.heap.size, _, rfl, Nat.le_refl _, by omega, by rw [List.length_replicate, hm.out, Nat.mul_one]; exact HC3.out, fun i hi j u hu => by
    have hj : j = 0 := by have := (List.getElem?_eq_some_iff.1 hu).1; simp [encInt] at this; exact this
    subst hj
    simp [encInt] at hu
    exact hu⟩)
  go_loopw [26] (fun i wr => ∃ (k : Nat) (q : List Int), k ≤ m ∧ i = .int .i64 k ∧ Hid (PQ l y N k q) ∧ Hid (OwnL wr w2.heap.size (w2.heap.size + 1) (some ⟨w2.heap.size, 0, none⟩) 1 encInt q) ∧ Hid (Below w2.heap.size w2 wr) ∧ Hid (Blk wr w2.heap.size m)) (fun i _ => m - (intOf i).toNat)
  case atStart => exact ⟨0, _, by omega, by rfl, Lib.hid PQ.start, HO3, HB3, HK3⟩
  case round =>
    obtain ⟨k, q, hk, rfl, hq, ho, hbl, hk8⟩ := hrel
    by_cases hltk : k < m
    rotate_left
    · obtain rfl : k = m := by omega
      go_wp2
      go_ret2
      have hqe := PQ.done Hopt.out hq.out hnl
      have hql : q.length = k := by rw [← hm.out]; exact hq.out.len
      refine ⟨(some ⟨w2.heap.size, 0, none⟩), k, by rw [Hlen.out, hm.out]; rfl, ?_, HB2.out.trans (hbl.out.mono hs2)⟩
      rw [← hqe]
      have hgr := ho.out.grow (base := w.heap.size) (by rw [hql]; exact hk8.out) (by omega) (by omega) (by omega)
      have e9 : (Value.slice (some ⟨w2.heap.size, 0, none⟩) q.length k) = .slice (some ⟨w2.heap.size, 0, none⟩) q.length q.length := by rw [hql]
      rw [e9]; exact hgr
    go_wp2
    go_loopw [30] (fun i wr => ∃ (j : Nat) (q2 : List Int), j ≤ y.length ∧ i = .int .i64 j ∧ Hid (OwnL wr w2.heap.size (w2.heap.size + 1) (some ⟨w2.heap.size, 0, none⟩) 1 encInt q2) ∧ Hid (RQ l y N (fun i => q.getD i 0) (fun i b => b < j) q2) ∧ Hid (Below w2.heap.size w2 wr) ∧ Hid (Blk wr w2.heap.size m)) (fun i _ => y.length - (intOf i).toNat)
    case atStart => exact ⟨0, q, by omega, by rfl, ho, Lib.hid (hq.out.round.imp (fun i b _ _ h => by omega)), hbl, hk8⟩
    case round =>
      obtain ⟨j, q2, hj, rfl, ho2, hq2, hbl2, hk82⟩ := hrel
      have hgl2 := hbl2.out.size
      by_cases hjy : j < y.length
      rotate_left
      · obtain rfl : j = y.length := by omega
        have Hnext : Hid (PQ l y N (k + 1) q2) := Lib.hid (PQ.next Hopt.out hq.out hq2.out (fun i b _ hb => by have := Hyl.out; omega))
        go_wp2
        go_roundw
        case rel => exact ⟨k + 1, q2, by omega, by go_num, Hnext, ho2, hbl2, hk82⟩
        case measure => simp [intOf]; omega
      have hjN : Hid (j < N) := Lib.hid (by have := Hyl.out; omega)
      obtain ⟨i2, hi2, hx2, e1, e2, e3, e4, e5⟩ := hst.out j hjy
      have hi2c : i2 < m := by omega
      obtain ⟨gy, ofy, hAy, hgy, hcy⟩ := (HoY.out.rd encInt_len).ints (show 0 < y.length by omega)
      have y0 := (hbl2.out.cell (p := ⟨gy, ofy + j, none⟩) hgy).trans (hcy j hjy)
      rw [e1] at y0
      have He2 := Lib.hid e2
      have He3 := Lib.hid e3
      obtain ⟨g4, off4, hA4, hg4, hc4⟩ := (Hi.out _ (List.getElem_mem hi2)).ints (show 0 < D[i2].x.length by omega)
      have Ht1 : Hid (w.cell? ⟨g, off + i2 * 2 + 1, none⟩ = some (.slice D[i2].A D[i2].x.length D[i2].c)) := Lib.hid (Hcd.out i2 hi2).2
      have Ht2 := Lib.hid (hc4 j hx2)
      obtain ⟨z, hz⟩ : ∃ z, Hid (D[i2].x[j] = z) := ⟨_, Lib.hid rfl⟩
      rw [hz.out] at e4 e5 Ht2 He3
      rw [hA4] at Ht1
      obtain ⟨u, hu⟩ : ∃ u, Hid (D[i2] = u) := ⟨_, Lib.hid rfl⟩
      rw [hu.out] at hx2 Ht1
      subst hAy
      clear e1 e2 e3 hcy hc4 hA4
      go_wp2
      clear y0
      obtain ⟨wq, rfl⟩ : ∃ wq, wq = wr := ⟨wr, rfl⟩
      go_loopw [37] (fun i wr => ∃ (k2 : Nat) (q3 : List Int), k2 ≤ m ∧ i = .int .i64 k2 ∧ Hid (OwnL wr w2.heap.size (w2.heap.size + 1) (some ⟨w2.heap.size, 0, none⟩) 1 encInt q3) ∧ Hid (RQ l y N (fun i => q.getD i 0) (fun i b => b < j ∨ (b = j ∧ i < k2)) q3) ∧ Hid (Below w2.heap.size w2 wr) ∧ Hid (Blk wr w2.heap.size m)) (fun i _ => m - (intOf i).toNat)
      case atStart => exact ⟨0, q2, by omega, by rfl, ho2, Lib.hid (hq2.out.imp (fun i b _ _ h => by omega)), hbl2, hk82⟩
      case round =>
        obtain ⟨k2, q3, hk2, rfl, ho3, hq3, hbl3, hk83⟩ := hrel
        have hgl3 := hbl3.out.size
        have hbw3 : Hid (Below w.heap.size w wr) := Lib.hid (HB2.out.trans (hbl3.out.mono hs2))
        by_cases hlt : k2 < m
        rotate_left
        · obtain rfl : k2 = m := by omega
          go_wp2
          go_roundw
          case rel => exact ⟨j + 1, q3, by omega, by go_num, ho3, Lib.hid (hq3.out.imp (fun i b hi hb h => by rw [hm.out] at hi; omega)), hbl3, hk83⟩
          case measure => simp [intOf]; omega
        have hltD : k2 < D.length := by omega
        have r0 := (hbw3.out.cell (p := ⟨g, off + k2 * 2, none⟩) hg).trans (Hcd.out k2 hltD).1
        have r1 := (hbw3.out.cell (p := ⟨g, off + k2 * 2 + 1, none⟩) hg).trans (Hcd.out k2 hltD).2
        have hxN := hsk.out k2 hltD
        have hjx : j < D[k2].x.length := by have := hjN.out; omega
        obtain ⟨f1, f2, f3⟩ := hs9.out k2 j hltD hjx
        obtain ⟨g3, off3, hA3, hg3, hc3⟩ := (Hi.out _ (List.getElem_mem hltD)).ints (show 0 < D[k2].x.length by omega)
        rw [hA3] at r1
        have s0 := hc3 j hjx
        have Hsv := Lib.hid f3
        generalize D[k2].x[j] = s at *
        obtain ⟨x, hx⟩ : ∃ x, Hid (D[k2] = x) := ⟨_, Lib.hid rfl⟩
        rw [hx.out] at r0 r1 hjx
        have hba : Hid (Below wr.heap.size wr (wr.alloc (.cells #[.string x.name, .slice (some ⟨g3, off3, none⟩) x.x.length x.c] 82))) := Lib.hid ((Below.refl _ _).alloc (Nat.le_refl _) _)
        have HoA : Hid (OwnL (wr.alloc (.cells #[.string x.name, .slice (some ⟨g3, off3, none⟩) x.x.length x.c] 82)) w2.heap.size (w2.heap.size + 1) (some ⟨w2.heap.size, 0, none⟩) 1 encInt q3) := Lib.hid (ho3.out.later hba.out)
        have HbA : Hid (Below w2.heap.size w2 (wr.alloc (.cells #[.string x.name, .slice (some ⟨g3, off3, none⟩) x.x.length x.c] 82))) := Lib.hid (hbl3.out.trans (hba.out.mono hgl3))
        have HkA : Hid (Blk (wr.alloc (.cells #[.string x.name, .slice (some ⟨g3, off3, none⟩) x.x.length x.c] 82)) w2.heap.size m) := Lib.hid (hk83.out.later hba.out)
        have HbW : Hid (Below w.heap.size w (wr.alloc (.cells #[.string x.name, .slice (some ⟨g3, off3, none⟩) x.x.length x.c] 82))) := Lib.hid (HB2.out.trans (HbA.out.mono hs2))
        have a0 : ((wr.alloc (.cells #[.string x.name, .slice (some ⟨g3, off3, none⟩) x.x.length x.c] 82))).cell? ⟨wr.heap.size, 0, none⟩ = some (.string x.name) := by rw [World.cell?_alloc_new]; rfl
        have a1 : ((wr.alloc (.cells #[.string x.name, .slice (some ⟨g3, off3, none⟩) x.x.length x.c] 82))).cell? ⟨wr.heap.size, 1, none⟩ = some (.slice (some ⟨g3, off3, none⟩) x.x.length x.c) := by rw [World.cell?_alloc_new]; rfl
        replace s0 := (HbW.out.cell (p := ⟨g3, off3 + j, none⟩) hg3).trans s0
        have t1 := (HbW.out.cell (p := ⟨g, off + i2 * 2 + 1, none⟩) hg).trans Ht1.out
        have t2 := (HbW.out.cell (p := ⟨g4, off4 + j, none⟩) hg4).trans Ht2.out
        have hga : w2.heap.size < wr.heap.size := by
          have h9 := ho3.out.cells (by have := hq3.out.len; rw [hm.out] at this; omega); obtain ⟨_, _, hA9, _, _, h9⟩ := h9; simp only [Option.some.injEq, Addr.mk.injEq, and_true] at hA9; subst hA9; exact h9.lt
        clear f3 hc3 hA3 hxN
        by_cases cs : 0 < s
        · have hq3l : q3.length = m := by rw [← hm.out]; exact hq3.out.len
          have hi2m : i2 < q3.length := by omega
          have hk2m : k2 < q3.length := by omega
          have p1 := HoA.out.cellInt k2 hk2m
          have p2 := HoA.out.cellInt i2 hi2m
          have hbd := hq3.out.bd Hopt.out HPe.out HNn.out (fun i hi => (hq.out.bd Hopt.out HPe.out HNn.out i hi).1)
          obtain ⟨b1, b2⟩ := hbd k2 (by rw [hm.out]; omega)
          obtain ⟨b3, b4⟩ := hbd i2 (by rw [hm.out]; omega)
          have Hraise : Hid (∀ v : Int, v = max (q3.getD k2 0) (q3.getD i2 0 + (s - z)) → RQ l y N (fun i => q.getD i 0) (fun i b => (b < j ∨ (b = j ∧ i < k2)) ∨ (i = k2 ∧ b = j)) (q3.set k2 v)) := Lib.hid (fun v hv => hq3.out.raise Hopt.out (by rw [hm.out]; exact hlt) hjN.out (by rw [Hsv.out]; exact cs) (by unfold cst; rw [He2.out, Hsv.out, hv, He3.out]))
          rw [getD_get hk2m] at b1 b2
          rw [getD_get hi2m] at b3 b4
          rw [getD_get hk2m, getD_get hi2m] at Hraise
          obtain ⟨p11, p12⟩ := p1
          obtain ⟨p21, _⟩ := p2
          generalize q3[k2] = v1 at *
          generalize q3[i2] = v2 at *
          have Hk2m := Lib.hid hk2m
          clear hbd hq3l hi2m hk2m
          go_wp2
          clear r0 r1
          generalize (wr.alloc (.cells #[.string x.name, .slice (some ⟨g3, off3, none⟩) x.x.length x.c] 82)) = wa at *
          generalize wr.heap.size = ga at *
          refine wp_region_still_tail 27 (by kernel_rfl) (by kernel_rfl) ?_
          simp only [List.take_succ_cons, List.take_zero, List.drop_succ_cons, List.drop_zero]
          repeat (first | still_call (l1Most_any _ _ _) | still_step)
          refine wpStill_nil ?_
          change wpList _ _ _ _ _ wa.drew
          have p11d : wa.drew.cell? ⟨w2.heap.size, k2, none⟩ = some (.int .i64 v1) := p11
          have p12d : wa.drew.frozen? ⟨w2.heap.size, k2, none⟩ = false := p12
          have HOd : Hid (OwnL wa.drew w2.heap.size (w2.heap.size + 1) (some ⟨w2.heap.size, 0, none⟩) 1 encInt q3) := Lib.hid (show OwnL wa w2.heap.size (w2.heap.size + 1) (some ⟨w2.heap.size, 0, none⟩) 1 encInt q3 from HoA.out)
          have HKd : Hid (Blk wa.drew w2.heap.size m) := Lib.hid (show Blk wa w2.heap.size m from HkA.out)
          have HBd : Hid (Below w2.heap.size w2 wa.drew) := Lib.hid HbA.out.drew
          clear s0 t1 t2 p11 p12 p21 a0 a1
          generalize wa.drew = wd at *
          go_wp2
          go_roundw
          case rel => exact ⟨k2 + 1, _, by omega, by go_num, Lib.hid (HOd.out.setInt k2 Hk2m.out _), Lib.hid ((Hraise.out _ (by omega)).imp (fun i b _ _ h => by omega)), Lib.hid (HBd.out.setCell (p := ⟨w2.heap.size, k2, none⟩) (Nat.le_refl _) _), Lib.hid (HKd.out.setCell _ _)⟩
          case measure => simp [intOf]; omega
        · have Hskip : Hid (RQ l y N (fun i => q.getD i 0) (fun i b => (b < j ∨ (b = j ∧ i < k2)) ∨ (i = k2 ∧ b = j)) q3) := Lib.hid (hq3.out.skip (by rw [Hsv.out]; omega))
          go_wp2
          go_roundw
          case rel => exact ⟨k2 + 1, q3, by omega, by go_num, HoA, Lib.hid (Hskip.out.imp (fun i b _ _ h => by omega)), HbA, HkA⟩
          case measure => simp [intOf]; omega
theorem sPrices_t (l : List Pk) (A : Option Addr) (c : Nat) (n : Int) (w : World) (h : RdP w w.heap.size A l) (hl : l.length ≤ 1048576) (hc : l.length ≤ c) (hs : ∀ x ∈ l, Person_small 1048576 x) (hp : bestP l n) :
    Calls Try.prog 10 #[.slice A l.length c, .int .i64 n] w fun e w' => ∃ A2 c2, e = .returned (.tuple #[.slice A2 (prL l (best l n.toNat []) n.toNat).length c2, .bool true]) ∧ OwnL w' w.heap.size w'.heap.size A2 1 encInt (prL l (best l n.toNat []) n.toNat) ∧ Below w.heap.size w w' :=
  (sPricesG_t l A c n w h hl hc hs hp).mono fun e w' ⟨A2, c2, h1, h2, h3⟩ => by
    obtain ⟨A3, c3, e3, ho⟩ := h2.own encInt_len
    injection e3 with e4 _ e5
    subst e4 e5
    exact ⟨A2, c2, h1, ho, h3⟩
theorem sPrices_f (l : List Pk) (A : Option Addr) (c : Nat) (n : Int) (w : World) (h : RdP w w.heap.size A l) (hl : l.length ≤ 1048576) (hc : l.length ≤ c) (hs : ∀ x ∈ l, Person_small 1048576 x) (hp : ¬ bestP l n) :
    Calls Try.prog 10 #[.slice A l.length c, .int .i64 n] w fun e w' => e = .returned (.tuple #[.slice none 0 0, .bool false]) ∧ Below w.heap.size w w' := by
  have HF := Lib.hid (sBest_f l A c n w h hl hc hs hp)
  clear h hs hp
  go_enter Try.func10, Try.ntmps10
  go_wp2_with (go_at_call 8; refine HF.out.mono ?_; rintro e w2 ⟨rfl, hb2⟩)
  go_ret2
  exact ⟨rfl, hb2⟩
theorem iPrices_f (l : List Pk) (A : Option Addr) (c : Nat) (n : Int) (w : World) (h : RdP w w.heap.size A l) (hl : l.length ≤ 1048576) (hc : l.length ≤ c) (hs : ∀ x ∈ l, Person_small 1048576 x) (hp : ¬ bestP l n) :
    Calls Try.prog 9 #[.slice A l.length c, .int .i64 n] w fun e w' => e = .returned (.tuple #[.slice none 0 0, .bool false]) ∧ Below w.heap.size w w' := by
  have HF := Lib.hid (iBest_f l A c n w h hl hc hs hp)
  clear h hs hp
  go_enter Try.func9, Try.ntmps9
  go_wp2_with (go_at_call 7; refine HF.out.mono ?_; rintro e w2 ⟨rfl, hb2⟩)
  go_ret2
  exact ⟨rfl, hb2⟩
theorem prL_bd {l : List Pk} {n : Int} (h : bestP l n) (y : List Int) (N : Nat) : (prL l y N).length ≤ 7 := by rw [prL_len]; exact h.1.len
end Go.Proofs.Ytpedfjcidbopiaa
