/-
  PricesFor of the program returns what the reference's returns, for all arguments: no condition.
-/
import Derived.Test.YtebmlcollanfhaaPricesI
import Derived.Test.YtebmlcollanfhaaFaPricesFor
namespace Go.Proofs.Ytebmlcollanfhaa
open Go.RowKit
set_option linter.unusedVariables false
set_option linter.unusedSimpArgs false
set_option maxRecDepth 100000

theorem l1Most_any (x y : Int) (w : World) : Calls Try.prog 83 #[.int .i64 x, .int .i64 y] w fun e w' => e = .returned (.int .i64 (max x y)) ∧ w' = w := by
  by_cases h : x < y
  · have h' : ¬ y < x := by omega
    have e : max x y = y := by omega
    have E := Lib.hid e
    rw [e]
    clear e
    go_enter Try.func83, Try.ntmps83
    go_wp2
    go_ret
    exact ⟨rfl, rfl⟩
  · have e : max x y = x := by omega
    rw [e]
    clear e
    by_cases h' : y < x
    · go_enter Try.func83, Try.ntmps83
      go_wp2
      go_ret
      exact ⟨rfl, rfl⟩
    · obtain rfl : x = y := by omega
      go_enter Try.func83, Try.ntmps83
      go_wp2
      go_ret
      exact ⟨rfl, rfl⟩





set_option maxHeartbeats 6400000 in
theorem sPrices_t (l : List Pk) (A : Option Addr) (c : Nat) (n : Int) (w : World) (h : RdP w w.heap.size A l) (hl : l.length ≤ 1048576) (hc : l.length ≤ c) (hs : ∀ x ∈ l, Person_small 1048576 x) (hp : bestP l n) :
    Calls Try.prog 16 #[.slice A l.length c, .int .i64 n] w fun e w' => ∃ A2 c2, e = .returned (.tuple #[.slice A2 (prL l (best l n.toNat []) n.toNat).length c2, .bool true]) ∧ OwnL w' w.heap.size w'.heap.size A2 1 encInt (prL l (best l n.toNat []) n.toNat) ∧ Below w.heap.size w w' := by
  have hN : ((n.toNat : Nat) : Int) = n := by have := hp.1.1.1; omega
  obtain ⟨hse, hyl, hopt⟩ := best_optS (N := n.toNat) hp.1 hN hp.2
  have hn7 : n.toNat ≤ 7 := by have := hp.1.1.2; omega
  have hn3 : 3 ≤ n.toNat := by have := hp.1.1.1; omega
  have hnl : n.toNat ≤ l.length := by have := hp.1.2.1.1; omega
  have hm7 : l.length ≤ 7 := hp.1.len
  have Hbest := Lib.hid (sBest_t l A c n w h hl hc hs hp)
  have HPe := Lib.hid hp.1
  generalize best l n.toNat [] = y at *
  generalize n.toNat = N at *
  have HRd := Lib.hid h
  have Hse := Lib.hid hse
  have Hyl := Lib.hid hyl
  have Hopt := Lib.hid hopt
  have HNn := Lib.hid hN
  have hy7 : y.length ≤ 7 := by omega
  have hy3 : 3 ≤ y.length := by omega
  have hlen := prL_len l y N
  have Hlen := Lib.hid hlen
  obtain ⟨D, hD, hr, hi⟩ := h
  have HD := Lib.hid hD
  have hDl : D.length = l.length := by rw [← hD]; simp
  have HDl := Lib.hid hDl
  have hst : Hid (∀ (b : Nat) (hb : b < y.length), ∃ (i : Nat) (hi : i < D.length) (hx : b < D[i].x.length), y[b] = (i : Int) ∧ wv y b = i ∧ sv l i b = D[i].x[b] ∧ D[i].x[b] ≤ 9 ∧ 0 ≤ D[i].x[b]) := Lib.hid (fun b hb => by
    obtain ⟨i, h1, h2, h3, h4, h5⟩ := seats_at HPe.out (by omega) hse hb
    have hi : i < D.length := by omega
    obtain ⟨h6, h7, h8⟩ := people_skill HPe.out h1 (b := b) (by omega)
    have hx : b < D[i].x.length := by rw [← hD, skAt_key hi] at h6; exact h6
    have he : sv l i b = D[i].x[b] := by unfold sv; rw [← hD, skAt_key hi]; simp [hx]
    simp only [← hD, skAt_key hi] at h7 h8
    exact ⟨i, hi, hx, h2, by unfold wv; rw [getD_get hb, h2, Int.toNat_natCast], he, h8, h7⟩)
  have hsk : Hid (∀ (i : Nat) (hi : i < D.length), D[i].x.length = N) := Lib.hid (fun i hi => by have := HPe.out.sk (i := i) (by omega); rw [← hD, skAt_key hi] at this; omega)
  have hs9 : Hid (∀ (i b : Nat) (hi : i < D.length) (hb : b < D[i].x.length), 0 ≤ D[i].x[b] ∧ D[i].x[b] ≤ 9 ∧ sv l i b = D[i].x[b]) := Lib.hid (fun i b hi hb => by
    have hl : D[i].x.length = N := hsk.out i hi
    obtain ⟨h6, h7, h8⟩ := people_skill HPe.out (i := i) (b := b) (by omega) (by omega)
    simp only [← hD, skAt_key hi] at h7 h8
    exact ⟨h7, h8, by unfold sv; rw [← hD, skAt_key hi]; simp [hb]⟩)
  obtain ⟨m, hm⟩ : ∃ m, Hid (l.length = m) := ⟨_, Lib.hid rfl⟩
  rw [hm.out] at hnl hm7 hDl hl hc Hbest ⊢
  obtain ⟨g, off, rfl, hg, hcd⟩ := people_cells hr (by omega)
  have Hi := Lib.hid hi
  have Hcd := Lib.hid hcd
  clear hr hi hcd hse hyl hopt hN hlen hD hp hs
  go_enter Try.func16, Try.ntmps16
  go_wp2_with (first | (go_at_call 82; refine Hbest.out.mono ?_; rintro e w2 ⟨A2, c2, rfl, hoy, hb2⟩; have HoY := Lib.hid hoy; have HB2 := Lib.hid hb2; have hs2 := hb2.size; clear hoy hb2) | (refine wpList_make_cells rfl 24 _ rfl 3 _ 8 rfl Int_info rfl .i64 m rfl (by omega) (by omega) ?_; intro w3 hc3 hb3 _; have HC3 := Lib.hid hc3; have HB3 := Lib.hid hb3; clear hc3 hb3))
  have HO3 : Hid (OwnL w3 w2.heap.size (w2.heap.size + 1) (some ⟨w2.heap.size, 0, none⟩) 1 encInt (List.replicate l.length (0 : Int))) := Lib.hid (.inr ⟨w2.heap.size, _, rfl, Nat.le_refl _, by omega, by rw [List.length_replicate, hm.out, Nat.mul_one]; exact HC3.out, fun i hi j u hu => by
    have hj : j = 0 := by have := (List.getElem?_eq_some_iff.1 hu).1; simp [encInt] at this; exact this
    subst hj
    simp [encInt] at hu
    exact hu⟩)
  go_loopw [26] (fun i wr => ∃ (k : Nat) (q : List Int), k ≤ m ∧ i = .int .i64 k ∧ Hid (PQ l y N k q) ∧ Hid (OwnL wr w2.heap.size (w2.heap.size + 1) (some ⟨w2.heap.size, 0, none⟩) 1 encInt q) ∧ Hid (Below w2.heap.size w2 wr)) (fun i _ => m - (intOf i).toNat)
  case atStart => exact ⟨0, _, by omega, by rfl, Lib.hid PQ.start, HO3, HB3⟩
  case round =>
    obtain ⟨k, q, hk, rfl, hq, ho, hbl⟩ := hrel
    by_cases hltk : k < m
    rotate_left
    · obtain rfl : k = m := by omega
      go_wp2
      go_ret2
      have hqe := PQ.done Hopt.out hq.out hnl
      refine ⟨(some ⟨w2.heap.size, 0, none⟩), k, by rw [Hlen.out, hm.out]; rfl, ?_, HB2.out.trans (hbl.out.mono hs2)⟩
      rw [← hqe]
      have hql : q.length = k := by rw [← hm.out]; exact hq.out.len
      exact ho.out.mono (by omega) (by have h9 := ho.out.cells (by omega); obtain ⟨_, _, hA9, _, _, h9⟩ := h9; simp only [Option.some.injEq, Addr.mk.injEq, and_true] at hA9; subst hA9; have := h9.lt; omega)
    go_wp2
    go_loopw [30] (fun i wr => ∃ (j : Nat) (q2 : List Int), j ≤ y.length ∧ i = .int .i64 j ∧ Hid (OwnL wr w2.heap.size (w2.heap.size + 1) (some ⟨w2.heap.size, 0, none⟩) 1 encInt q2) ∧ Hid (RQ l y N (fun i => q.getD i 0) (fun i b => b < j) q2) ∧ Hid (Below w2.heap.size w2 wr)) (fun i _ => y.length - (intOf i).toNat)
    case atStart => exact ⟨0, q, by omega, by rfl, ho, Lib.hid (hq.out.round.imp (fun i b _ _ h => by omega)), hbl⟩
    case round =>
      obtain ⟨j, q2, hj, rfl, ho2, hq2, hbl2⟩ := hrel
      have hgl2 := hbl2.out.size
      by_cases hjy : j < y.length
      rotate_left
      · obtain rfl : j = y.length := by omega
        have Hnext : Hid (PQ l y N (k + 1) q2) := Lib.hid (PQ.next Hopt.out hq.out hq2.out (fun i b _ hb => by have := Hyl.out; omega))
        go_wp2
        go_roundw
        case rel => exact ⟨k + 1, q2, by omega, by go_num, Hnext, ho2, hbl2⟩
        case measure => simp [intOf]; omega
      have hjN : Hid (j < N) := Lib.hid (by have := Hyl.out; omega)
      obtain ⟨i2, hi2, hx2, e1, e2, e3, e4, e5⟩ := hst.out j hjy
      have hi2c : i2 < m := by omega
      obtain ⟨gy, ofy, hAy, hgy, hcy⟩ := (HoY.out.rd encInt_len).ints (show 0 < y.length by omega)
      have y0 := (hbl2.out.cell (p := ⟨gy, ofy + j, none⟩) hgy).trans (hcy j hjy)
      rw [e1] at y0
      have He2 := Lib.hid e2
      have He3 := Lib.hid e3
      obtain ⟨g4, off4, hA4, hg4, hc4⟩ := (Hi.out _ (List.getElem_mem hi2)).ints (show 0 < D[i2].x.length by omega)
      have Ht1 : Hid (w.cell? ⟨g, off + i2 * 2 + 1, none⟩ = some (.slice D[i2].A D[i2].x.length D[i2].c)) := Lib.hid (Hcd.out i2 hi2).2
      have Ht2 := Lib.hid (hc4 j hx2)
      obtain ⟨z, hz⟩ : ∃ z, Hid (D[i2].x[j] = z) := ⟨_, Lib.hid rfl⟩
      rw [hz.out] at e4 e5 Ht2 He3
      rw [hA4] at Ht1
      obtain ⟨u, hu⟩ : ∃ u, Hid (D[i2] = u) := ⟨_, Lib.hid rfl⟩
      rw [hu.out] at hx2 Ht1
      subst hAy
      clear e1 e2 e3 hcy hc4 hA4
      go_wp2
      clear y0
      obtain ⟨wq, rfl⟩ : ∃ wq, wq = wr := ⟨wr, rfl⟩
      go_loopw [37] (fun i wr => ∃ (k2 : Nat) (q3 : List Int), k2 ≤ m ∧ i = .int .i64 k2 ∧ Hid (OwnL wr w2.heap.size (w2.heap.size + 1) (some ⟨w2.heap.size, 0, none⟩) 1 encInt q3) ∧ Hid (RQ l y N (fun i => q.getD i 0) (fun i b => b < j ∨ (b = j ∧ i < k2)) q3) ∧ Hid (Below w2.heap.size w2 wr)) (fun i _ => m - (intOf i).toNat)
      case atStart => exact ⟨0, q2, by omega, by rfl, ho2, Lib.hid (hq2.out.imp (fun i b _ _ h => by omega)), hbl2⟩
      case round =>
        obtain ⟨k2, q3, hk2, rfl, ho3, hq3, hbl3⟩ := hrel
        have hgl3 := hbl3.out.size
        have hbw3 : Hid (Below w.heap.size w wr) := Lib.hid (HB2.out.trans (hbl3.out.mono hs2))
        by_cases hlt : k2 < m
        rotate_left
        · obtain rfl : k2 = m := by omega
          go_wp2
          go_roundw
          case rel => exact ⟨j + 1, q3, by omega, by go_num, ho3, Lib.hid (hq3.out.imp (fun i b hi hb h => by rw [hm.out] at hi; omega)), hbl3⟩
          case measure => simp [intOf]; omega
        have hltD : k2 < D.length := by omega
        have r0 := (hbw3.out.cell (p := ⟨g, off + k2 * 2, none⟩) hg).trans (Hcd.out k2 hltD).1
        have r1 := (hbw3.out.cell (p := ⟨g, off + k2 * 2 + 1, none⟩) hg).trans (Hcd.out k2 hltD).2
        have hxN := hsk.out k2 hltD
        have hjx : j < D[k2].x.length := by have := hjN.out; omega
        obtain ⟨f1, f2, f3⟩ := hs9.out k2 j hltD hjx
        obtain ⟨g3, off3, hA3, hg3, hc3⟩ := (Hi.out _ (List.getElem_mem hltD)).ints (show 0 < D[k2].x.length by omega)
        rw [hA3] at r1
        have s0 := hc3 j hjx
        have Hsv := Lib.hid f3
        generalize D[k2].x[j] = s at *
        obtain ⟨x, hx⟩ : ∃ x, Hid (D[k2] = x) := ⟨_, Lib.hid rfl⟩
        rw [hx.out] at r0 r1 hjx
        have hba : Hid (Below wr.heap.size wr (wr.alloc (.cells #[.string x.name, .slice (some ⟨g3, off3, none⟩) x.x.length x.c] 118))) := Lib.hid ((Below.refl _ _).alloc (Nat.le_refl _) _)
        have HoA : Hid (OwnL (wr.alloc (.cells #[.string x.name, .slice (some ⟨g3, off3, none⟩) x.x.length x.c] 118)) w2.heap.size (w2.heap.size + 1) (some ⟨w2.heap.size, 0, none⟩) 1 encInt q3) := Lib.hid (ho3.out.later hba.out)
        have HbA : Hid (Below w2.heap.size w2 (wr.alloc (.cells #[.string x.name, .slice (some ⟨g3, off3, none⟩) x.x.length x.c] 118))) := Lib.hid (hbl3.out.trans (hba.out.mono hgl3))
        have HbW : Hid (Below w.heap.size w (wr.alloc (.cells #[.string x.name, .slice (some ⟨g3, off3, none⟩) x.x.length x.c] 118))) := Lib.hid (HB2.out.trans (HbA.out.mono hs2))
        have a0 : ((wr.alloc (.cells #[.string x.name, .slice (some ⟨g3, off3, none⟩) x.x.length x.c] 118))).cell? ⟨wr.heap.size, 0, none⟩ = some (.string x.name) := by rw [World.cell?_alloc_new]; rfl
        have a1 : ((wr.alloc (.cells #[.string x.name, .slice (some ⟨g3, off3, none⟩) x.x.length x.c] 118))).cell? ⟨wr.heap.size, 1, none⟩ = some (.slice (some ⟨g3, off3, none⟩) x.x.length x.c) := by rw [World.cell?_alloc_new]; rfl
        replace s0 := (HbW.out.cell (p := ⟨g3, off3 + j, none⟩) hg3).trans s0
        have t1 := (HbW.out.cell (p := ⟨g, off + i2 * 2 + 1, none⟩) hg).trans Ht1.out
        have t2 := (HbW.out.cell (p := ⟨g4, off4 + j, none⟩) hg4).trans Ht2.out
        have hga : w2.heap.size < wr.heap.size := by
          have h9 := ho3.out.cells (by have := hq3.out.len; rw [hm.out] at this; omega); obtain ⟨_, _, hA9, _, _, h9⟩ := h9; simp only [Option.some.injEq, Addr.mk.injEq, and_true] at hA9; subst hA9; exact h9.lt
        clear f3 hc3 hA3 hxN
        by_cases cs : 0 < s
        · have hq3l : q3.length = m := by rw [← hm.out]; exact hq3.out.len
          have hi2m : i2 < q3.length := by omega
          have hk2m : k2 < q3.length := by omega
          have p1 := HoA.out.cellInt k2 hk2m
          have p2 := HoA.out.cellInt i2 hi2m
          have hbd := hq3.out.bd Hopt.out HPe.out HNn.out (fun i hi => (hq.out.bd Hopt.out HPe.out HNn.out i hi).1)
          obtain ⟨b1, b2⟩ := hbd k2 (by rw [hm.out]; omega)
          obtain ⟨b3, b4⟩ := hbd i2 (by rw [hm.out]; omega)
          have Hraise : Hid (∀ v : Int, v = max (q3.getD k2 0) (q3.getD i2 0 + (s - z)) → RQ l y N (fun i => q.getD i 0) (fun i b => (b < j ∨ (b = j ∧ i < k2)) ∨ (i = k2 ∧ b = j)) (q3.set k2 v)) := Lib.hid (fun v hv => hq3.out.raise Hopt.out (by rw [hm.out]; exact hlt) hjN.out (by rw [Hsv.out]; exact cs) (by unfold cst; rw [He2.out, Hsv.out, hv, He3.out]))
          rw [getD_get hk2m] at b1 b2
          rw [getD_get hi2m] at b3 b4
          rw [getD_get hk2m, getD_get hi2m] at Hraise
          obtain ⟨p11, p12⟩ := p1
          obtain ⟨p21, _⟩ := p2
          generalize q3[k2] = v1 at *
          generalize q3[i2] = v2 at *
          have Hk2m := Lib.hid hk2m
          clear hbd hq3l hi2m hk2m
          go_wp2
          clear r0 r1
          generalize (wr.alloc (.cells #[.string x.name, .slice (some ⟨g3, off3, none⟩) x.x.length x.c] 118)) = wa at *
          generalize wr.heap.size = ga at *
          refine wp_region_still_tail 27 (by kernel_rfl) (by kernel_rfl) ?_
          simp only [List.take_succ_cons, List.take_zero, List.drop_succ_cons, List.drop_zero]
          repeat (first | still_call (l1Most_any _ _ _) | still_step)
          refine wpStill_nil ?_
          change wpList _ _ _ _ _ wa.drew
          have p11d : wa.drew.cell? ⟨w2.heap.size, k2, none⟩ = some (.int .i64 v1) := p11
          have p12d : wa.drew.frozen? ⟨w2.heap.size, k2, none⟩ = false := p12
          have HOd : Hid (OwnL wa.drew w2.heap.size (w2.heap.size + 1) (some ⟨w2.heap.size, 0, none⟩) 1 encInt q3) := Lib.hid (show OwnL wa w2.heap.size (w2.heap.size + 1) (some ⟨w2.heap.size, 0, none⟩) 1 encInt q3 from HoA.out)
          have HBd : Hid (Below w2.heap.size w2 wa.drew) := Lib.hid HbA.out.drew
          clear s0 t1 t2 p11 p12 p21 a0 a1
          generalize wa.drew = wd at *
          go_wp2
          go_roundw
          case rel => exact ⟨k2 + 1, _, by omega, by go_num, Lib.hid (HOd.out.setInt k2 Hk2m.out _), Lib.hid ((Hraise.out _ (by omega)).imp (fun i b _ _ h => by omega)), Lib.hid (HBd.out.setCell (p := ⟨w2.heap.size, k2, none⟩) (Nat.le_refl _) _)⟩
          case measure => simp [intOf]; omega
        · have Hskip : Hid (RQ l y N (fun i => q.getD i 0) (fun i b => (b < j ∨ (b = j ∧ i < k2)) ∨ (i = k2 ∧ b = j)) q3) := Lib.hid (hq3.out.skip (by rw [Hsv.out]; omega))
          go_wp2
          go_roundw
          case rel => exact ⟨k2 + 1, q3, by omega, by go_num, HoA, Lib.hid (Hskip.out.imp (fun i b _ _ h => by omega)), HbA⟩
          case measure => simp [intOf]; omega
theorem sPrices_f (l : List Pk) (A : Option Addr) (c : Nat) (n : Int) (w : World) (h : RdP w w.heap.size A l) (hl : l.length ≤ 1048576) (hc : l.length ≤ c) (hs : ∀ x ∈ l, Person_small 1048576 x) (hp : ¬ bestP l n) :
    Calls Try.prog 16 #[.slice A l.length c, .int .i64 n] w fun e w' => e = .returned (.tuple #[.slice none 0 0, .bool false]) ∧ Below w.heap.size w w' := by
  have HF := Lib.hid (sBest_f l A c n w h hl hc hs hp)
  clear h hs hp
  go_enter Try.func16, Try.ntmps16
  go_wp2_with (go_at_call 82; refine HF.out.mono ?_; rintro e w2 ⟨rfl, hb2⟩)
  go_ret2
  exact ⟨rfl, hb2⟩
theorem iPrices_f (l : List Pk) (A : Option Addr) (c : Nat) (n : Int) (w : World) (h : RdP w w.heap.size A l) (hl : l.length ≤ 1048576) (hc : l.length ≤ c) (hs : ∀ x ∈ l, Person_small 1048576 x) (hp : ¬ bestP l n) :
    Calls Try.prog 18 #[.slice A l.length c, .int .i64 n] w fun e w' => e = .returned (.tuple #[.slice none 0 0, .bool false]) ∧ Below w.heap.size w w' := by
  have HF := Lib.hid (iBest_f l A c n w h hl hc hs hp)
  clear h hs hp
  go_enter Try.func18, Try.ntmps18
  go_wp2_with (go_at_call 85; refine HF.out.mono ?_; rintro e w2 ⟨rfl, hb2⟩)
  go_ret2
  exact ⟨rfl, hb2⟩
theorem prL_bd {l : List Pk} {n : Int} (h : bestP l n) (y : List Int) (N : Nat) : (prL l y N).length ≤ 7 := by rw [prL_len]; exact h.1.len
set_option maxHeartbeats 4000000 in
theorem pricesLaw (w : World) (l : List Pk) (Al : Option Addr) (cl : Nat) (hrl : RdP w w.heap.size Al l) (hll : l.length ≤ 9223372036854775807) (hsl : ∀ x ∈ l, Person_small 9223372036854775807 x) (n : Int) (hszn : -9223372036854775808 ≤ n ∧ n ≤ 9223372036854775807) :
    Calls Try.prog 3 #[.slice Al l.length cl, .int .i64 n] w fun e w' => e = .returned (.bool true) ∧ Below w.heap.size w w' := by
  have Hrl := Lib.hid hrl
  have Hsl := Lib.hid hsl
  clear hrl hsl
  have Bw0 := Lib.hid (Below.refl w.heap.size w)
  go_enter Try.func3, Try.ntmps3
  go_wp2_with fail
  refine (szPersonS_any l Al cl (1048576 : Int) _ ((Hrl.out.below Bw0.out (Nat.le_refl _)).more Bw0.out.size) (by omega) (by omega) (by omega) Hsl.out).mono ?_
  rintro e w1 ⟨r1, rfl, hz, hb⟩
  have C1 := Lib.hid hb
  clear hb
  have t1 := C1.out.size
  have Bw1 := Lib.hid (Bw0.out.trans (C1.out.mono Bw0.out.size))
  have Z1 := Lib.hid hz
  clear hz
  by_cases n1 : r1 < 0
  · go_wp2_with fail
    go_ret
    exact ⟨rfl, Bw1.out⟩
  have z1 := Z1.out.resolve_left n1
  have y1 : 0 ≤ r1 ∧ r1 ≤ 1048576 ∧ l.length ≤ 1048576 := ⟨z1.1, by have := z1.2.1; omega, by have := z1.2.2.1; omega⟩
  obtain ⟨y1a, y1b, hll'⟩ := y1
  have htl : totP l ≤ 1048576 := by have := z1.2.2.2.2; omega
  have hcntl : cntP l ≤ 2097152 := by unfold cntP; omega
  have Hml : Hid (∀ x ∈ l, Person_small 1048576 x) := Lib.hid (fun x hx => by have := z1.2.2.2.1 x hx; simp only [Person_small] at this ⊢; omega)
  clear z1
  by_cases h : bestP l n
  · have H := Lib.hid h
    have hlen := prL_bd h (best l n.toNat []) n.toNat
    clear h
    go_wp2_with fail
    refine (toPersonS_any l Al cl _ ((Hrl.out.below Bw1.out (Nat.le_refl _)).more Bw1.out.size) (by omega) Hml.out).mono ?_
    rintro e w2 ⟨A2, rfl, ho, hb⟩
    have C2 := Lib.hid hb
    clear hb
    have t2 := C2.out.size
    have Bw2 := Lib.hid (Bw1.out.trans (C2.out.mono Bw1.out.size))
    have O_t1_2 := Lib.hid ho
    clear ho
    go_wp2_with fail
    refine (sPrices_t l A2 l.length n _ (O_t1_2.out.rd trivial) (by omega) (Nat.le_refl _) Hml.out H.out).mono ?_
    rintro e w3 ⟨A_w0, c_w0, rfl, ho0, hb⟩
    have C3 := Lib.hid hb
    clear hb
    have t3 := C3.out.size
    have Bw3 := Lib.hid (Bw2.out.trans (C3.out.mono Bw2.out.size))
    have O_w0_3 := Lib.hid ho0
    clear ho0
    go_wp2_with fail
    refine (toPersonS_any l Al cl _ ((Hrl.out.below Bw3.out (Nat.le_refl _)).more Bw3.out.size) (by omega) Hml.out).mono ?_
    rintro e w4 ⟨A4, rfl, ho, hb⟩
    have C4 := Lib.hid hb
    clear hb
    have t4 := C4.out.size
    have Bw4 := Lib.hid (Bw3.out.trans (C4.out.mono Bw3.out.size))
    have O_x0_4 := Lib.hid ho
    clear ho
    have O_w0_4 := Lib.hid (O_w0_3.out.later C4.out)
    clear O_w0_3
    go_wp2_with fail
    refine (iPrices_t l A4 l.length n _ (O_x0_4.out.rd trivial) (by omega) (Nat.le_refl _) Hml.out H.out).mono ?_
    rintro e w5 ⟨A_g0, c_g0, rfl, ho0, hb⟩
    have C5 := Lib.hid hb
    clear hb
    have t5 := C5.out.size
    have Bw5 := Lib.hid (Bw4.out.trans (C5.out.mono Bw4.out.size))
    have O_g0_5 := Lib.hid ho0
    clear ho0
    have O_w0_5 := Lib.hid (O_w0_4.out.later C5.out)
    clear O_w0_4
    have O_x0_5 := Lib.hid (O_x0_4.out.later C5.out)
    clear O_x0_4
    go_wp2_with fail
    refine (eqIntS_t (prL l (best l n.toNat []) n.toNat) A_g0 A_w0 c_g0 c_w0 _ (O_g0_5.out.rd encInt_len) (O_w0_5.out.rd encInt_len) (by omega)).mono ?_
    rintro e w6 ⟨rfl, hb⟩
    have C6 := Lib.hid hb
    clear hb
    have t6 := C6.out.size
    have Bw6 := Lib.hid (Bw5.out.trans (C6.out.mono Bw5.out.size))
    have O_w0_6 := Lib.hid (O_w0_5.out.later C6.out)
    clear O_w0_5
    have O_x0_6 := Lib.hid (O_x0_5.out.later C6.out)
    clear O_x0_5
    have O_g0_6 := Lib.hid (O_g0_5.out.later C6.out)
    clear O_g0_5
    go_wp2_with fail
    refine (toPersonS_any l Al cl _ ((Hrl.out.below Bw6.out (Nat.le_refl _)).more Bw6.out.size) (by omega) Hml.out).mono ?_
    rintro e w7 ⟨A7, rfl, ho, hb⟩
    have C7 := Lib.hid hb
    clear hb
    have t7 := C7.out.size
    have Bw7 := Lib.hid (Bw6.out.trans (C7.out.mono Bw6.out.size))
    have O_t6_7 := Lib.hid ho
    clear ho
    have O_w0_7 := Lib.hid (O_w0_6.out.later C7.out)
    clear O_w0_6
    have O_x0_7 := Lib.hid (O_x0_6.out.later C7.out)
    clear O_x0_6
    have O_g0_7 := Lib.hid (O_g0_6.out.later C7.out)
    clear O_g0_6
    go_wp2_with fail
    refine (eqPersonS_t l A4 A7 l.length l.length _ (O_x0_7.out.rd trivial) (O_t6_7.out.rd trivial) (by omega) Hml.out).mono ?_
    rintro e w8 ⟨rfl, hb⟩
    have C8 := Lib.hid hb
    clear hb
    have t8 := C8.out.size
    have Bw8 := Lib.hid (Bw7.out.trans (C8.out.mono Bw7.out.size))
    have O_w0_8 := Lib.hid (O_w0_7.out.later C8.out)
    clear O_w0_7
    have O_x0_8 := Lib.hid (O_x0_7.out.later C8.out)
    clear O_x0_7
    have O_g0_8 := Lib.hid (O_g0_7.out.later C8.out)
    clear O_g0_7
    go_wp2_with fail
    refine (markPersonS_any l _ _ A4 l.length 1 _ O_x0_8.out (by omega) (by omega) (by omega)).mono ?_
    rintro e w9 ⟨he, ho, hc⟩
    obtain ⟨q9, hq⟩ : ∃ q : Nat, q = 1 + cntP l := ⟨_, rfl⟩
    rw [← hq] at he
    subst he
    have Hq9 := Lib.hid hq
    have b9 : 0 < q9 ∧ q9 ≤ 10000001 := by omega
    obtain ⟨b9a, b9b⟩ := b9
    clear hq
    have C9 := Lib.hid hc
    clear hc
    have t9 := C9.out.size
    have Bw9 := Lib.hid (Below.chg Bw8.out C9.out (by omega) Bw8.out.size)
    have O_x0_9 := Lib.hid ho
    clear ho
    have O_w0_9 := Lib.hid (O_w0_8.out.chg C9.out (by omega))
    clear O_w0_8
    have O_g0_9 := Lib.hid (O_g0_8.out.chg C9.out (by omega))
    clear O_g0_8
    go_wp2_with fail
    refine (eqIntS_t (prL l (best l n.toNat []) n.toNat) A_g0 A_w0 c_g0 c_w0 _ (O_g0_9.out.rd encInt_len) (O_w0_9.out.rd encInt_len) (by omega)).mono ?_
    rintro e w10 ⟨rfl, hb⟩
    have C10 := Lib.hid hb
    clear hb
    have t10 := C10.out.size
    have Bw10 := Lib.hid (Bw9.out.trans (C10.out.mono Bw9.out.size))
    have O_w0_10 := Lib.hid (O_w0_9.out.later C10.out)
    clear O_w0_9
    have O_g0_10 := Lib.hid (O_g0_9.out.later C10.out)
    clear O_g0_9
    go_wp2_with fail
    refine (markIntS_any (prL l (best l n.toNat []) n.toNat) _ _ A_g0 c_g0 1 _ O_g0_10.out (by omega) (by omega) (by omega)).mono ?_
    rintro e w11 ⟨he, ho, hc⟩
    obtain ⟨q11, hq⟩ : ∃ q : Nat, q = 1 + (prL l (best l n.toNat []) n.toNat).length * 1 := ⟨_, rfl⟩
    rw [← hq] at he
    subst he
    have Hq11 := Lib.hid hq
    have b11 : 0 < q11 ∧ q11 ≤ 10000001 := by omega
    obtain ⟨b11a, b11b⟩ := b11
    clear hq
    have C11 := Lib.hid hc
    clear hc
    have t11 := C11.out.size
    have Bw11 := Lib.hid (Below.chg Bw10.out C11.out (by omega) Bw10.out.size)
    have O_g0_11 := Lib.hid ho
    clear ho
    have O_w0_11 := Lib.hid (O_w0_10.out.chg C11.out (by omega))
    clear O_w0_10
    go_wp2_with fail
    refine (heldIntS_any (prL l (best l n.toNat []) n.toNat).length A_g0 c_g0 1 _ (O_g0_11.out.rd encInt_len) (by omega) (by omega) (by omega)).mono ?_
    rintro e w12 ⟨he, hb⟩
    rw [← Hq11.out] at he
    subst he
    have C12 := Lib.hid hb
    clear hb
    have t12 := C12.out.size
    have Bw12 := Lib.hid (Bw11.out.trans (C12.out.mono Bw11.out.size))
    have O_w0_12 := Lib.hid (O_w0_11.out.later C12.out)
    clear O_w0_11
    have O_g0_12 := Lib.hid (O_g0_11.out.later C12.out)
    clear O_g0_11
    go_wp2_with fail
    refine (toPersonS_any l Al cl _ ((Hrl.out.below Bw12.out (Nat.le_refl _)).more Bw12.out.size) (by omega) Hml.out).mono ?_
    rintro e w13 ⟨A13, rfl, ho, hb⟩
    have C13 := Lib.hid hb
    clear hb
    have t13 := C13.out.size
    have Bw13 := Lib.hid (Bw12.out.trans (C13.out.mono Bw12.out.size))
    have O_t15_13 := Lib.hid ho
    clear ho
    have O_w0_13 := Lib.hid (O_w0_12.out.later C13.out)
    clear O_w0_12
    have O_g0_13 := Lib.hid (O_g0_12.out.later C13.out)
    clear O_g0_12
    go_wp2_with fail
    refine (iPrices_t l A13 l.length n _ (O_t15_13.out.rd trivial) (by omega) (Nat.le_refl _) Hml.out H.out).mono ?_
    rintro e w14 ⟨A_h0, c_h0, rfl, ho0, hb⟩
    have C14 := Lib.hid hb
    clear hb
    have t14 := C14.out.size
    have Bw14 := Lib.hid (Bw13.out.trans (C14.out.mono Bw13.out.size))
    have O_h0_14 := Lib.hid ho0
    clear ho0
    have O_w0_14 := Lib.hid (O_w0_13.out.later C14.out)
    clear O_w0_13
    have O_g0_14 := Lib.hid (O_g0_13.out.later C14.out)
    clear O_g0_13
    go_wp2_with fail
    refine (eqIntS_t (prL l (best l n.toNat []) n.toNat) A_h0 A_w0 c_h0 c_w0 _ (O_h0_14.out.rd encInt_len) (O_w0_14.out.rd encInt_len) (by omega)).mono ?_
    rintro e w15 ⟨rfl, hb⟩
    have C15 := Lib.hid hb
    clear hb
    have t15 := C15.out.size
    have Bw15 := Lib.hid (Bw14.out.trans (C15.out.mono Bw14.out.size))
    have O_g0_15 := Lib.hid (O_g0_14.out.later C15.out)
    clear O_g0_14
    go_wp2_with fail
    refine (heldIntS_any (prL l (best l n.toNat []) n.toNat).length A_g0 c_g0 1 _ (O_g0_15.out.rd encInt_len) (by omega) (by omega) (by omega)).mono ?_
    rintro e w16 ⟨he, hb⟩
    rw [← Hq11.out] at he
    subst he
    have C16 := Lib.hid hb
    clear hb
    have t16 := C16.out.size
    have Bw16 := Lib.hid (Bw15.out.trans (C16.out.mono Bw15.out.size))
    go_wp2_with fail
    go_ret
    exact ⟨rfl, Bw16.out⟩
  · have H := Lib.hid h
    clear h
    go_wp2_with fail
    refine (toPersonS_any l Al cl _ ((Hrl.out.below Bw1.out (Nat.le_refl _)).more Bw1.out.size) (by omega) Hml.out).mono ?_
    rintro e w2 ⟨A2, rfl, ho, hb⟩
    have C2 := Lib.hid hb
    clear hb
    have t2 := C2.out.size
    have Bw2 := Lib.hid (Bw1.out.trans (C2.out.mono Bw1.out.size))
    have O_t1_2 := Lib.hid ho
    clear ho
    go_wp2_with fail
    refine (sPrices_f l A2 l.length n _ (O_t1_2.out.rd trivial) (by omega) (Nat.le_refl _) Hml.out H.out).mono ?_
    rintro e w3 ⟨rfl, hb⟩
    have C3 := Lib.hid hb
    clear hb
    have t3 := C3.out.size
    have Bw3 := Lib.hid (Bw2.out.trans (C3.out.mono Bw2.out.size))
    have O_w0_3 : Hid (OwnL w3 w2.heap.size w3.heap.size none 1 encInt ([] : List Int)) := Lib.hid OwnL.nil
    go_wp2_with fail
    refine (toPersonS_any l Al cl _ ((Hrl.out.below Bw3.out (Nat.le_refl _)).more Bw3.out.size) (by omega) Hml.out).mono ?_
    rintro e w4 ⟨A4, rfl, ho, hb⟩
    have C4 := Lib.hid hb
    clear hb
    have t4 := C4.out.size
    have Bw4 := Lib.hid (Bw3.out.trans (C4.out.mono Bw3.out.size))
    have O_x0_4 := Lib.hid ho
    clear ho
    have O_w0_4 := Lib.hid (O_w0_3.out.later C4.out)
    clear O_w0_3
    go_wp2_with fail
    refine (iPrices_f l A4 l.length n _ (O_x0_4.out.rd trivial) (by omega) (Nat.le_refl _) Hml.out H.out).mono ?_
    rintro e w5 ⟨rfl, hb⟩
    have C5 := Lib.hid hb
    clear hb
    have t5 := C5.out.size
    have Bw5 := Lib.hid (Bw4.out.trans (C5.out.mono Bw4.out.size))
    have O_g0_5 : Hid (OwnL w5 w4.heap.size w5.heap.size none 1 encInt ([] : List Int)) := Lib.hid OwnL.nil
    have O_w0_5 := Lib.hid (O_w0_4.out.later C5.out)
    clear O_w0_4
    have O_x0_5 := Lib.hid (O_x0_4.out.later C5.out)
    clear O_x0_4
    go_wp2_with fail
    refine (eqIntS_t ([] : List Int) none none 0 0 _ (O_g0_5.out.rd encInt_len) (O_w0_5.out.rd encInt_len) (by simp)).mono ?_
    rintro e w6 ⟨rfl, hb⟩
    have C6 := Lib.hid hb
    clear hb
    have t6 := C6.out.size
    have Bw6 := Lib.hid (Bw5.out.trans (C6.out.mono Bw5.out.size))
    have O_w0_6 := Lib.hid (O_w0_5.out.later C6.out)
    clear O_w0_5
    have O_x0_6 := Lib.hid (O_x0_5.out.later C6.out)
    clear O_x0_5
    have O_g0_6 := Lib.hid (O_g0_5.out.later C6.out)
    clear O_g0_5
    go_wp2_with fail
    refine (toPersonS_any l Al cl _ ((Hrl.out.below Bw6.out (Nat.le_refl _)).more Bw6.out.size) (by omega) Hml.out).mono ?_
    rintro e w7 ⟨A7, rfl, ho, hb⟩
    have C7 := Lib.hid hb
    clear hb
    have t7 := C7.out.size
    have Bw7 := Lib.hid (Bw6.out.trans (C7.out.mono Bw6.out.size))
    have O_t6_7 := Lib.hid ho
    clear ho
    have O_w0_7 := Lib.hid (O_w0_6.out.later C7.out)
    clear O_w0_6
    have O_x0_7 := Lib.hid (O_x0_6.out.later C7.out)
    clear O_x0_6
    have O_g0_7 := Lib.hid (O_g0_6.out.later C7.out)
    clear O_g0_6
    go_wp2_with fail
    refine (eqPersonS_t l A4 A7 l.length l.length _ (O_x0_7.out.rd trivial) (O_t6_7.out.rd trivial) (by omega) Hml.out).mono ?_
    rintro e w8 ⟨rfl, hb⟩
    have C8 := Lib.hid hb
    clear hb
    have t8 := C8.out.size
    have Bw8 := Lib.hid (Bw7.out.trans (C8.out.mono Bw7.out.size))
    have O_w0_8 := Lib.hid (O_w0_7.out.later C8.out)
    clear O_w0_7
    have O_x0_8 := Lib.hid (O_x0_7.out.later C8.out)
    clear O_x0_7
    have O_g0_8 := Lib.hid (O_g0_7.out.later C8.out)
    clear O_g0_7
    go_wp2_with fail
    refine (markPersonS_any l _ _ A4 l.length 1 _ O_x0_8.out (by omega) (by omega) (by omega)).mono ?_
    rintro e w9 ⟨he, ho, hc⟩
    obtain ⟨q9, hq⟩ : ∃ q : Nat, q = 1 + cntP l := ⟨_, rfl⟩
    rw [← hq] at he
    subst he
    have Hq9 := Lib.hid hq
    have b9 : 0 < q9 ∧ q9 ≤ 10000001 := by omega
    obtain ⟨b9a, b9b⟩ := b9
    clear hq
    have C9 := Lib.hid hc
    clear hc
    have t9 := C9.out.size
    have Bw9 := Lib.hid (Below.chg Bw8.out C9.out (by omega) Bw8.out.size)
    have O_x0_9 := Lib.hid ho
    clear ho
    have O_w0_9 := Lib.hid (O_w0_8.out.chg C9.out (by omega))
    clear O_w0_8
    have O_g0_9 := Lib.hid (O_g0_8.out.chg C9.out (by omega))
    clear O_g0_8
    go_wp2_with fail
    refine (eqIntS_t ([] : List Int) none none 0 0 _ (O_g0_9.out.rd encInt_len) (O_w0_9.out.rd encInt_len) (by simp)).mono ?_
    rintro e w10 ⟨rfl, hb⟩
    have C10 := Lib.hid hb
    clear hb
    have t10 := C10.out.size
    have Bw10 := Lib.hid (Bw9.out.trans (C10.out.mono Bw9.out.size))
    have O_w0_10 := Lib.hid (O_w0_9.out.later C10.out)
    clear O_w0_9
    have O_g0_10 := Lib.hid (O_g0_9.out.later C10.out)
    clear O_g0_9
    go_wp2_with fail
    refine (markIntS_any ([] : List Int) _ _ none 0 1 _ O_g0_10.out (by simp) (by omega) (by omega)).mono ?_
    rintro e w11 ⟨he, ho, hc⟩
    obtain ⟨q11, hq⟩ : ∃ q : Nat, q = 1 + ([] : List Int).length * 1 := ⟨_, rfl⟩
    rw [← hq] at he
    subst he
    have Hq11 := Lib.hid hq
    have b11 : 0 < q11 ∧ q11 ≤ 10000001 := by simp at hq; omega
    obtain ⟨b11a, b11b⟩ := b11
    clear hq
    have C11 := Lib.hid hc
    clear hc
    have t11 := C11.out.size
    have Bw11 := Lib.hid (Below.chg Bw10.out C11.out (by omega) Bw10.out.size)
    have O_g0_11 := Lib.hid ho
    clear ho
    have O_w0_11 := Lib.hid (O_w0_10.out.chg C11.out (by omega))
    clear O_w0_10
    go_wp2_with fail
    refine (heldIntS_any ([] : List Int).length none 0 1 _ (O_g0_11.out.rd encInt_len) (by simp) (by omega) (by omega)).mono ?_
    rintro e w12 ⟨he, hb⟩
    rw [← Hq11.out] at he
    subst he
    have C12 := Lib.hid hb
    clear hb
    have t12 := C12.out.size
    have Bw12 := Lib.hid (Bw11.out.trans (C12.out.mono Bw11.out.size))
    have O_w0_12 := Lib.hid (O_w0_11.out.later C12.out)
    clear O_w0_11
    have O_g0_12 := Lib.hid (O_g0_11.out.later C12.out)
    clear O_g0_11
    go_wp2_with fail
    refine (toPersonS_any l Al cl _ ((Hrl.out.below Bw12.out (Nat.le_refl _)).more Bw12.out.size) (by omega) Hml.out).mono ?_
    rintro e w13 ⟨A13, rfl, ho, hb⟩
    have C13 := Lib.hid hb
    clear hb
    have t13 := C13.out.size
    have Bw13 := Lib.hid (Bw12.out.trans (C13.out.mono Bw12.out.size))
    have O_t15_13 := Lib.hid ho
    clear ho
    have O_w0_13 := Lib.hid (O_w0_12.out.later C13.out)
    clear O_w0_12
    have O_g0_13 := Lib.hid (O_g0_12.out.later C13.out)
    clear O_g0_12
    go_wp2_with fail
    refine (iPrices_f l A13 l.length n _ (O_t15_13.out.rd trivial) (by omega) (Nat.le_refl _) Hml.out H.out).mono ?_
    rintro e w14 ⟨rfl, hb⟩
    have C14 := Lib.hid hb
    clear hb
    have t14 := C14.out.size
    have Bw14 := Lib.hid (Bw13.out.trans (C14.out.mono Bw13.out.size))
    have O_h0_14 : Hid (OwnL w14 w13.heap.size w14.heap.size none 1 encInt ([] : List Int)) := Lib.hid OwnL.nil
    have O_w0_14 := Lib.hid (O_w0_13.out.later C14.out)
    clear O_w0_13
    have O_g0_14 := Lib.hid (O_g0_13.out.later C14.out)
    clear O_g0_13
    go_wp2_with fail
    refine (eqIntS_t ([] : List Int) none none 0 0 _ (O_h0_14.out.rd encInt_len) (O_w0_14.out.rd encInt_len) (by simp)).mono ?_
    rintro e w15 ⟨rfl, hb⟩
    have C15 := Lib.hid hb
    clear hb
    have t15 := C15.out.size
    have Bw15 := Lib.hid (Bw14.out.trans (C15.out.mono Bw14.out.size))
    have O_g0_15 := Lib.hid (O_g0_14.out.later C15.out)
    clear O_g0_14
    go_wp2_with fail
    refine (heldIntS_any ([] : List Int).length none 0 1 _ (O_g0_15.out.rd encInt_len) (by simp) (by omega) (by omega)).mono ?_
    rintro e w16 ⟨he, hb⟩
    rw [← Hq11.out] at he
    subst he
    have C16 := Lib.hid hb
    clear hb
    have t16 := C16.out.size
    have Bw16 := Lib.hid (Bw15.out.trans (C16.out.mono Bw15.out.size))
    go_wp2_with fail
    go_ret
    exact ⟨rfl, Bw16.out⟩

namespace fnExactPricesFor
open Go.ChangeShapes Go.WideShapes Go.ChangeAt Go.RowKit Go.Deep
open Go.ChangeMaps (open_string shut_string)
theorem own : ownKnob Try.prog.godebug = none := by kernel_rfl
theorem laid : laidOutB Try.prog = true := by kernel_rfl
theorem reads : Try.f3.params.toList.all (fun t => Try.prog.readableRec t && decide (t < Try.prog.types.size)) = true := by kernel_rfl
set_option maxRecDepth 100000 in
theorem lifted (os : Os) (started : os.Started) (H : Type) (enc : TypeId × Value → H) :
    ReturnsInHanded {} Try.checked os 3 .any (Rows.fnExactPricesForSpec.pre6 enc Try.prog Try.f3 Rows.fnExactPricesForRow.domain false) (Rows.fnExactPricesForSpec.post enc Try.prog Try.f3 false true false false) := by
  refine returnsInHanded_of_change (C := Try.checked) own started (by kernel_rfl) Try.func3
    (ChangeSpec.witness6 (enc := enc) (C := Try.checked) false ⟨#[], #[.slice none 0 0, .int .i64 0], []⟩ 8 (by kernel_rfl) (by kernel_rfl) (by kernel_rfl) (by kernel_rfl)) ?_
  intro W base args ds gs before hval0 hW hcnd _
  have hval : ∀ (j : Nat) t v, Try.f3.params[j]? = some t → args[j]? = some v → Value.okWide Try.prog W .any base t v := hval0
  have hW' := hW
  obtain ⟨p, q, hA0, hV, rfl, hfz, hnd⟩ := hW
  have hA : DataW.TrodAll enc Try.prog W 0 (fun _ => true) true Try.f3.params.toList args.toList ds p := hA0
  rw [Try.params3] at hA hval
  obtain ⟨rfl, rfl⟩ := trodVars_none hV
  have hlt : ∀ x ∈ p, x.block < W.heap.size := fun x hx => by simpa using hW'.lt x (List.mem_append.2 (.inl hx))
  clear hA0 hval0
  obtain ⟨v0, vs0, d0, ds0, p0, q0, hargs, rfl, rfl, h0, r0⟩ := trodAll_cons hA
  obtain ⟨v1, vs1, d1, ds1, p1, q1, rfl, rfl, rfl, h1, r1⟩ := trodAll_cons r0
  obtain ⟨rfl, rfl, rfl⟩ := trodAll_nil r1
  obtain rfl : args = #[v0, v1] := by cases args; simp_all
  clear hargs
  obtain ⟨A0, a0, c0, rfl, y0, x0, z0⟩ := open_list Try.underlying22 2 (by kernel_rfl) (by omega) Psn.enc _ Person_el (hval 0 22 v0 rfl rfl) h0
  obtain ⟨x0, z0⟩ := people_open x0 z0
  obtain ⟨a1, rfl, rfl, rfl, z1⟩ := open_int Try.underlying3 (hval 1 3 v1 rfl rfl) h1
  have hlaw := pricesLaw W (a0.map Psn.key) A0 c0 x0 (by rw [List.length_map]; unfold maxLen at y0; omega) z0 a1 (by simpa [Lit.wf, IntKind.min, IntKind.max, IntKind.signed, IntKind.bits] using z1)
  simp only [List.length_map] at hlaw
  refine (hlaw).mono fun e W' ⟨he, hg⟩ => ?_
  subst he
  exact ⟨_, rfl, law_post laid reads rfl Try.underlying4 rfl rfl hW' hg⟩
theorem over : Rows.fnExactPricesForRow.holds Try.pinned (OpenSpec.ofChange Rows.fnExactPricesForSpec) :=
  OpenClaim.holds_of_wide 3 Try.f3 rfl rfl rfl rfl rfl rfl rfl ⟨rfl, rfl, rfl, rfl, rfl⟩ rfl rfl rfl rfl rfl (by kernel_rfl) Try.func3 facts
    (of_decide_eq_true (by kernel_rfl)) (by unfold Func.isWrapper; first | (rw [if_pos (by decide +kernel)]; kernel_rfl) | (rw [if_neg (by decide +kernel)]; exact ⟨rfl, rfl⟩))
    (fun os started H enc _ => lifted os started H enc)
theorem proved : Rows.FnExactPricesForSaid := over
end fnExactPricesFor
end Go.Proofs.Ytebmlcollanfhaa
