/-
  The least prices: contract of the program.
-/
import Derived.Test.YtpedfjcidbopiaaPrices
import Derived.Test.YtpedfjcidbopiaaBestI
import Derived.StillTailTactics
namespace Go.Proofs.Ytpedfjcidbopiaa
open Go.RowKit
set_option linter.unusedVariables false
set_option linter.unusedSimpArgs false
set_option maxRecDepth 100000

theorem allIn_of {q : List Int} {m : Nat} (h : q.length = m) (hb : ∀ i, i < m → 0 ≤ q.getD i 0 ∧ q.getD i 0 ≤ 63) : allIn q 0 1000 := fun s hs => by
  obtain ⟨i, hi, rfl⟩ := List.getElem_of_mem hs
  have := hb i (by omega)
  rw [getD_get hi] at this
  unfold inB; omega




set_option maxHeartbeats 6400000 in
theorem iPrices_t (l : List Pk) (A : Option Addr) (c : Nat) (n : Int) (w : World) (h : RdP w w.heap.size A l) (hl : l.length ≤ 1048576) (hc : l.length ≤ c) (hs : ∀ x ∈ l, Person_small 1048576 x) (hp : bestP l n) :
    Calls Try.prog 9 #[.slice A l.length c, .int .i64 n] w fun e w' => ∃ A2 c2, e = .returned (.tuple #[.slice A2 (prL l (best l n.toNat []) n.toNat).length c2, .bool true]) ∧ OwnL w' w.heap.size w'.heap.size A2 1 encInt (prL l (best l n.toNat []) n.toNat) ∧ Below w.heap.size w w' := by
  have hN : ((n.toNat : Nat) : Int) = n := by have := hp.1.1.1; omega
  obtain ⟨hse, hyl, hopt⟩ := best_optS (N := n.toNat) hp.1 hN hp.2
  have hn7 : n.toNat ≤ 7 := by have := hp.1.1.2; omega
  have hn3 : 3 ≤ n.toNat := by have := hp.1.1.1; omega
  have hnl : n.toNat ≤ l.length := by have := hp.1.2.1.1; omega
  have hm7 : l.length ≤ 7 := hp.1.len
  have Hbest := Lib.hid (iBest_t l A c n w h hl hc hs hp)
  have HPe := Lib.hid hp.1
  generalize best l n.toNat [] = y at *
  generalize n.toNat = N at *
  have HRd := Lib.hid h
  have Hse := Lib.hid hse
  have Hyl := Lib.hid hyl
  have Hopt := Lib.hid hopt
  have HNn := Lib.hid hN
  have hy7 : y.length ≤ 7 := by omega
  have hy3 : 3 ≤ y.length := by omega
  have hlen := prL_len l y N
  have Hlen := Lib.hid hlen
  obtain ⟨D, hD, hr, hi⟩ := h
  have HD := Lib.hid hD
  have hDl : D.length = l.length := by rw [← hD]; simp
  have HDl := Lib.hid hDl
  have hst : Hid (∀ (b : Nat) (hb : b < y.length), ∃ (i : Nat) (hi : i < D.length) (hx : b < D[i].x.length), y[b] = (i : Int) ∧ wv y b = i ∧ sv l i b = D[i].x[b] ∧ D[i].x[b] ≤ 9 ∧ 0 ≤ D[i].x[b]) := Lib.hid (fun b hb => by
    obtain ⟨i, h1, h2, h3, h4, h5⟩ := seats_at HPe.out (by omega) hse hb
    have hi : i < D.length := by omega
    obtain ⟨h6, h7, h8⟩ := people_skill HPe.out h1 (b := b) (by omega)
    have hx : b < D[i].x.length := by rw [← hD, skAt_key hi] at h6; exact h6
    have he : sv l i b = D[i].x[b] := by unfold sv; rw [← hD, skAt_key hi]; simp [hx]
    simp only [← hD, skAt_key hi] at h7 h8
    exact ⟨i, hi, hx, h2, by unfold wv; rw [getD_get hb, h2, Int.toNat_natCast], he, h8, h7⟩)
  have hsk : Hid (∀ (i : Nat) (hi : i < D.length), D[i].x.length = N) := Lib.hid (fun i hi => by have := HPe.out.sk (i := i) (by omega); rw [← hD, skAt_key hi] at this; omega)
  have hs9 : Hid (∀ (i b : Nat) (hi : i < D.length) (hb : b < D[i].x.length), 0 ≤ D[i].x[b] ∧ D[i].x[b] ≤ 9 ∧ sv l i b = D[i].x[b]) := Lib.hid (fun i b hi hb => by
    have hl : D[i].x.length = N := hsk.out i hi
    obtain ⟨h6, h7, h8⟩ := people_skill HPe.out (i := i) (b := b) (by omega) (by omega)
    simp only [← hD, skAt_key hi] at h7 h8
    exact ⟨h7, h8, by unfold sv; rw [← hD, skAt_key hi]; simp [hb]⟩)
  obtain ⟨m, hm⟩ : ∃ m, Hid (l.length = m) := ⟨_, Lib.hid rfl⟩
  rw [hm.out] at hnl hm7 hDl hl hc Hbest ⊢
  obtain ⟨g, off, rfl, hg, hcd⟩ := people_cells hr (by omega)
  have Hi := Lib.hid hi
  have Hcd := Lib.hid hcd
  clear hr hi hcd hse hyl hopt hN hlen hD hp hs
  go_enter Try.func9, Try.ntmps9
  go_wp2_with (first | (go_at_call 7; refine Hbest.out.mono ?_; rintro e w2 ⟨A2, c2, rfl, hoy, hb2⟩; have HoY := Lib.hid hoy; have HB2 := Lib.hid hb2; have hs2 := hb2.size; clear hoy hb2) | (refine wpList_make_cells rfl 26 _ rfl 3 _ 8 rfl Int_info rfl .i64 m rfl (by omega) (by omega) ?_; intro w3 hc3 hb3 _; have HC3 := Lib.hid hc3; have HB3 := Lib.hid hb3; clear hc3 hb3))
  have HO3 : Hid (OwnL w3 w2.heap.size (w2.heap.size + 1) (some ⟨w2.heap.size, 0, none⟩) 1 encInt (List.replicate l.length (0 : Int))) := Lib.hid (.inr ⟨w2.heap.size, _, rfl, Nat.le_refl _, by omega, by rw [List.length_replicate, hm.out, Nat.mul_one]; exact HC3.out, fun i hi j u hu => by
    have hj : j = 0 := by have := (List.getElem?_eq_some_iff.1 hu).1; simp [encInt] at this; exact this
    subst hj
    simp [encInt] at hu
    exact hu⟩)
  go_loopw [32] (fun _ wr => ∃ (k : Nat) (q : List Int), Hid (PQ l y N k q) ∧ Hid (OwnL wr w2.heap.size (w2.heap.size + 1) (some ⟨w2.heap.size, 0, none⟩) 1 encInt q) ∧ Hid (Below w2.heap.size w2 wr)) (fun _ wr => potW wr w2.heap.size m)
  case atStart => exact ⟨0, _, Lib.hid PQ.start, HO3, HB3⟩
  case round =>
    obtain ⟨k, q, hq, ho, hbl⟩ := hrel
    have hql : q.length = m := by rw [← hm.out]; exact hq.out.len
    have Hql := Lib.hid hql
    have hgl := hbl.out.size
    have hbw : Hid (Below w.heap.size w wr) := Lib.hid (HB2.out.trans (hbl.out.mono hs2))
    have hfa : Hid (∀ (cc : Nat) (b : Bool), B (fairP l y q) = b → Calls Try.prog 51 #[.slice (some ⟨g, off, none⟩) m c, .slice A2 y.length c2, .slice (some ⟨w2.heap.size, 0, none⟩) q.length cc] wr fun e w' => e = .returned (.bool b) ∧ Below wr.heap.size wr w') := Lib.hid (fun cc b hb => by
      have := fair_any l y q (some ⟨g, off, none⟩) A2 (some ⟨w2.heap.size, 0, none⟩) c c2 cc n wr ((HRd.out.below hbw.out (Nat.le_refl _)).more hbw.out.size) ((HoY.out.rd encInt_len).below hbl.out (Nat.le_refl _) |>.more hgl) (ho.out.rd encInt_len) (by rw [hm.out]; exact hl) (by omega) HPe.out (by rw [Hyl.out]; exact HNn.out) Hse.out hq.out.len (allIn_of hq.out.len (hq.out.bd Hopt.out HPe.out HNn.out))
      rw [hm.out, hb] at this; exact this)
    rw [hql] at hfa
    clear hql
    by_cases hf : fairP l y q
    · have Hf := Lib.hid hf
      have hfb := hfa.out
      have e9 := B_t hf
      have Hfc : Hid (∀ cc, Calls Try.prog 51 #[.slice (some ⟨g, off, none⟩) m c, .slice A2 y.length c2, .slice (some ⟨w2.heap.size, 0, none⟩) m cc] wr fun e w' => e = .returned (.bool true) ∧ Below wr.heap.size wr w') := Lib.hid (fun cc => hfb cc true e9)
      clear hf hfb e9 hfa
      go_wp2_with (go_at_call 51; refine (Hfc.out _).mono ?_; rintro e w5 ⟨rfl, hb5⟩)
      go_ret2
      have hqe := PQ.fair Hopt.out Hyl.out hq.out Hf.out
      refine ⟨(some ⟨w2.heap.size, 0, none⟩), m, by rw [Hlen.out, hm.out]; rfl, ?_, hbw.out.trans (hb5.mono hbw.out.size)⟩
      rw [← hqe]
      exact (ho.out.later hb5).mono (by omega) (by have := hb5.size; have h9 := ho.out.cells (by rw [Hql.out]; omega); obtain ⟨_, _, hA9, _, _, h9⟩ := h9; simp only [Option.some.injEq, Addr.mk.injEq, and_true] at hA9; subst hA9; have := h9.lt; omega)
    · have Hf := Lib.hid hf
      have hfb := hfa.out
      have e9 := B_f hf
      have Hfc : Hid (∀ cc, Calls Try.prog 51 #[.slice (some ⟨g, off, none⟩) m c, .slice A2 y.length c2, .slice (some ⟨w2.heap.size, 0, none⟩) m cc] wr fun e w' => e = .returned (.bool false) ∧ Below wr.heap.size wr w') := Lib.hid (fun cc => hfb cc false e9)
      clear hf hfb e9 hfa
      go_wp2_with (go_at_call 51; refine (Hfc.out _).mono ?_; rintro e w5 ⟨rfl, hb5⟩; have HB5 := Lib.hid hb5; have hgl5 := hb5.size; clear hb5)
      have HoQ : Hid (OwnL w5 w2.heap.size (w2.heap.size + 1) (some ⟨w2.heap.size, 0, none⟩) 1 encInt q) := Lib.hid (ho.out.later HB5.out)
      have HbQ : Hid (Below w2.heap.size w2 w5) := Lib.hid (hbl.out.trans (HB5.out.mono hgl))
      obtain ⟨wq, rfl⟩ : ∃ wq, wq = wr := ⟨wr, rfl⟩
      go_loopw [32] (fun i wr => ∃ (k2 : Nat) (q2 : List Int), k2 ≤ m ∧ i = .int .i64 k2 ∧ Hid (OwnL wr w2.heap.size (w2.heap.size + 1) (some ⟨w2.heap.size, 0, none⟩) 1 encInt q2) ∧ Hid (RQ l y N (fun i => q.getD i 0) (fun i b => i < k2) q2) ∧ Hid (Below w2.heap.size w2 wr)) (fun i _ => m - (intOf i).toNat)
      case atStart => exact ⟨0, q, by omega, by rfl, HoQ, Lib.hid (hq.out.round.imp (fun i b _ _ h => by omega)), HbQ⟩
      case round =>
        obtain ⟨k2, q2, hk2, rfl, ho2, hq2, hbl2⟩ := hrel
        have hgl2 := hbl2.out.size
        have hbw2 : Hid (Below w.heap.size w wr) := Lib.hid (HB2.out.trans (hbl2.out.mono hs2))
        by_cases hlt : k2 < m
        · have hltD : k2 < D.length := by omega
          have r0 := (hbw2.out.cell (p := ⟨g, off + k2 * 2, none⟩) hg).trans (Hcd.out k2 hltD).1
          have r1 := (hbw2.out.cell (p := ⟨g, off + k2 * 2 + 1, none⟩) hg).trans (Hcd.out k2 hltD).2
          have hxN := hsk.out k2 hltD
          have h9 := hs9.out k2
          obtain ⟨g3, off3, hA3, hg3, hc3⟩ := (Hi.out _ (List.getElem_mem hltD)).ints (show 0 < D[k2].x.length by omega)
          rw [hA3] at r1
          have Hc3 := Lib.hid hc3
          have H9 := Lib.hid (fun (b : Nat) (hb : b < D[k2].x.length) => h9 b hltD hb)
          obtain ⟨x, hx⟩ : ∃ x, Hid (D[k2] = x) := ⟨_, Lib.hid rfl⟩
          rw [hx.out] at r0 r1 hxN
          have Hc4 : Hid (∀ (b : Nat) (hb : b < x.x.length), w.cell? ⟨g3, off3 + b, none⟩ = some (.int .i64 x.x[b]) ∧ 0 ≤ x.x[b] ∧ x.x[b] ≤ 9 ∧ sv l k2 b = x.x[b]) := Lib.hid (by rw [← hx.out]; exact fun b hb => ⟨Hc3.out b hb, (H9.out b hb)⟩)
          have HxN := Lib.hid hxN
          have hxl : x.x.length ≤ 7 := by omega
          clear hc3 h9 H9 Hc3 hA3 hxN
          have hba : Hid (Below wr.heap.size wr (wr.alloc (.cells #[.string x.name, .slice (some ⟨g3, off3, none⟩) x.x.length x.c] 82))) := Lib.hid ((Below.refl _ _).alloc (Nat.le_refl _) _)
          have HoA : Hid (OwnL (wr.alloc (.cells #[.string x.name, .slice (some ⟨g3, off3, none⟩) x.x.length x.c] 82)) w2.heap.size (w2.heap.size + 1) (some ⟨w2.heap.size, 0, none⟩) 1 encInt q2) := Lib.hid (ho2.out.later hba.out)
          have HbA : Hid (Below w2.heap.size w2 (wr.alloc (.cells #[.string x.name, .slice (some ⟨g3, off3, none⟩) x.x.length x.c] 82))) := Lib.hid (hbl2.out.trans (hba.out.mono hgl2))
          go_wp2
          clear r0 r1
          generalize wr.alloc (.cells #[.string x.name, .slice (some ⟨g3, off3, none⟩) x.x.length x.c] 82) = wa at *
          generalize wr.heap.size = ga at *
          go_loopw [40] (fun i wr => ∃ (j : Nat) (q3 : List Int), j ≤ x.x.length ∧ i = .int .i64 j ∧ Hid (OwnL wr w2.heap.size (w2.heap.size + 1) (some ⟨w2.heap.size, 0, none⟩) 1 encInt q3) ∧ Hid (RQ l y N (fun i => q.getD i 0) (fun i b => i < k2 ∨ (i = k2 ∧ b < j)) q3) ∧ Hid (Below w2.heap.size w2 wr)) (fun i _ => x.x.length - (intOf i).toNat)
          case atStart => exact ⟨0, q2, by omega, by rfl, HoA, Lib.hid (hq2.out.imp (fun i b _ _ h => by omega)), HbA⟩
          case round =>
            obtain ⟨j, q3, hj, rfl, ho3, hq3, hbl3⟩ := hrel
            have hgl3 := hbl3.out.size
            have hbw3 : Hid (Below w.heap.size w wr) := Lib.hid (HB2.out.trans (hbl3.out.mono hs2))
            by_cases hltj : j < x.x.length
            · have hjy : j < y.length := by have := HxN.out; have := Hyl.out; omega
              have hjN : Hid (j < N) := Lib.hid (by have := HxN.out; omega)
              obtain ⟨c1, c2', c3, c4⟩ := Hc4.out j hltj
              have s0 := (hbw3.out.cell (p := ⟨g3, off3 + j, none⟩) hg3).trans c1
              obtain ⟨i2, hi2, hx2, e1, e2, e3, e4, e5⟩ := hst.out j hjy
              obtain ⟨gy, ofy, hAy, hgy, hcy⟩ := (HoY.out.rd encInt_len).ints (show 0 < y.length by omega)
              have y0 := (hbl3.out.cell (p := ⟨gy, ofy + j, none⟩) hgy).trans (hcy j hjy)
              rw [e1] at y0
              have Hsv := Lib.hid c4
              have He2 := Lib.hid e2
              have He3 := Lib.hid e3
              generalize x.x[j] = s at *
              have hsub : Hid (A2 = some ⟨gy, ofy, none⟩) := Lib.hid hAy
              subst hAy
              clear c1 c4 e1 e2 e3 hcy
              by_cases cs : 0 < s
              · have t1 := (hbw3.out.cell (p := ⟨g, off + i2 * 2 + 1, none⟩) hg).trans (Hcd.out i2 hi2).2
                obtain ⟨g4, off4, hA4, hg4, hc4⟩ := (Hi.out _ (List.getElem_mem hi2)).ints (show 0 < D[i2].x.length by omega)
                rw [hA4] at t1
                have t2 := (hbw3.out.cell (p := ⟨g4, off4 + j, none⟩) hg4).trans (hc4 j hx2)
                clear hc4 hA4
                obtain ⟨z, hz⟩ : ∃ z, Hid (D[i2].x[j] = z) := ⟨_, Lib.hid rfl⟩
                rw [hz.out] at t2 e4 e5
                obtain ⟨u, hu⟩ : ∃ u, Hid (D[i2] = u) := ⟨_, Lib.hid rfl⟩
                rw [hu.out] at t1 hx2
                have hq3l : q3.length = m := by rw [← hm.out]; exact hq3.out.len
                have hi2m : i2 < q3.length := by omega
                have hi2c : i2 < m := by omega
                have hk2m : k2 < q3.length := by omega
                have p1 := ho3.out.cellInt k2 hk2m
                have p2 := ho3.out.cellInt i2 hi2m
                have hbd := hq3.out.bd Hopt.out HPe.out HNn.out (fun i hi => (hq.out.bd Hopt.out HPe.out HNn.out i hi).1)
                obtain ⟨b1, b2⟩ := hbd k2 (by rw [hm.out]; omega)
                obtain ⟨b3, b4⟩ := hbd i2 (by rw [hm.out]; omega)
                have Hraise : Hid (∀ v : Int, v = max (q3.getD k2 0) (q3.getD i2 0 + (s - z)) → RQ l y N (fun i => q.getD i 0) (fun i b => (i < k2 ∨ (i = k2 ∧ b < j)) ∨ (i = k2 ∧ b = j)) (q3.set k2 v)) := Lib.hid (fun v hv => hq3.out.raise Hopt.out (by rw [hm.out]; exact hlt) hjN.out (by rw [Hsv.out]; exact cs) (by unfold cst; rw [He2.out, Hsv.out, hv, He3.out, hz.out]))
                rw [getD_get hk2m] at b1 b2
                rw [getD_get hi2m] at b3 b4
                rw [getD_get hk2m, getD_get hi2m] at Hraise
                obtain ⟨p11, p12⟩ := p1
                obtain ⟨p21, _⟩ := p2
                generalize q3[k2] = v1 at *
                generalize q3[i2] = v2 at *
                have Hk2m := Lib.hid hk2m
                clear hbd hq3l hi2m hk2m
                go_wp2
                refine wp_region_still_tail 23 (by kernel_rfl) (by kernel_rfl) ?_
                simp only [List.take_succ_cons, List.take_zero, List.drop_succ_cons, List.drop_zero]
                repeat still_step
                refine wpStill_nil ?_
                change wpList _ _ _ _ _ wr.drew
                have p11d : wr.drew.cell? ⟨w2.heap.size, k2, none⟩ = some (.int .i64 v1) := p11
                have p12d : wr.drew.frozen? ⟨w2.heap.size, k2, none⟩ = false := p12
                have HOd : Hid (OwnL wr.drew w2.heap.size (w2.heap.size + 1) (some ⟨w2.heap.size, 0, none⟩) 1 encInt q3) := Lib.hid (show OwnL wr w2.heap.size (w2.heap.size + 1) (some ⟨w2.heap.size, 0, none⟩) 1 encInt q3 from ho3.out)
                have HBd : Hid (Below w2.heap.size w2 wr.drew) := Lib.hid hbl3.out.drew
                clear s0 y0 t1 t2 p11 p12 p21
                generalize wr.drew = wd at *
                go_wp2
                go_roundw
                case rel => exact ⟨j + 1, _, by omega, by go_num, Lib.hid (HOd.out.setInt k2 Hk2m.out _), Lib.hid ((Hraise.out _ (by omega)).imp (fun i b _ _ h => by omega)), Lib.hid (HBd.out.setCell (p := ⟨w2.heap.size, k2, none⟩) (Nat.le_refl _) _)⟩
                case measure => simp [intOf]; omega
              · have Hskip : Hid (RQ l y N (fun i => q.getD i 0) (fun i b => (i < k2 ∨ (i = k2 ∧ b < j)) ∨ (i = k2 ∧ b = j)) q3) := Lib.hid (hq3.out.skip (by rw [Hsv.out]; omega))
                go_wp2
                go_roundw
                case rel => exact ⟨j + 1, q3, by omega, by go_num, ho3, Lib.hid (Hskip.out.imp (fun i b _ _ h => by omega)), hbl3⟩
                case measure => simp [intOf]; omega
            · obtain rfl : j = x.x.length := by omega
              go_wp2
              go_roundw
              case rel => exact ⟨k2 + 1, q3, by omega, by go_num, ho3, Lib.hid (hq3.out.imp (fun i b _ hb h => by have := HxN.out; omega)), hbl3⟩
              case measure => simp [intOf]; omega
        · obtain rfl : k2 = m := by omega
          have Hnext : Hid (PQ l y N (k + 1) q2) := Lib.hid (PQ.next Hopt.out hq.out hq2.out (fun i b hi _ => by rw [← hm.out]; exact hi))
          have Hpot : Hid (potW wr w2.heap.size k2 < potW wq w2.heap.size k2) := Lib.hid (by
            obtain ⟨i, hi, hlt⟩ := PQ.strict Hopt.out Hse.out Hyl.out HPe.out HNn.out hq.out Hf.out hq2.out (fun i b hi _ => by rw [← hm.out]; exact hi)
            exact potW_lt ho.out ho2.out (by rw [← hm.out]; exact hq.out.len) (by rw [← hm.out]; exact hq2.out.len) (fun i hi => hq2.out.lo i (by rw [hm.out]; exact hi)) (fun i hi => (Hnext.out.bd Hopt.out HPe.out HNn.out i (by rw [hm.out]; exact hi)).2) (by rw [← hm.out]; exact hi) hlt)
          go_wp2
          go_roundw
          case rel => exact ⟨k + 1, q2, Hnext, ho2, hbl2⟩
          case measure => exact Hpot.out
end Go.Proofs.Ytpedfjcidbopiaa
