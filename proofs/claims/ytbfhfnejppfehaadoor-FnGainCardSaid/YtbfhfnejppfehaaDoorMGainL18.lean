import Derived.Test.YtbfhfnejppfehaaDoorMGainL17
/-
  Contracts: the best placing (the program's search with a record of the best).
-/
namespace Go.Proofs.YtbfhfnejppfehaaDoor
open Go.RowKit
set_option linter.unusedVariables false
set_option linter.unusedSimpArgs false
set_option maxRecDepth 100000

/-- The record in memory: the people, the bells, the best placing so far (nil: none), its sum. -/
def PlS (w : World) (gp : Nat) (A : Option Addr) (ln c : Nat) (n : Int) (st : List Int × Int) : Prop :=
  ∃ Ab cb f, Cells w gp 4 f ∧ f 0 = .slice A ln c ∧ f 1 = .int .i64 n ∧ f 2 = .slice Ab st.1.length cb ∧ f 3 = .int .i64 st.2 ∧ OwnL w (gp + 1) w.heap.size Ab 1 encInt st.1 ∧ NilOr Ab st.1.length cb
theorem PlS.later {w w' : World} {gp : Nat} {A : Option Addr} {ln c : Nat} {n : Int} {st : List Int × Int} (h : PlS w gp A ln c n st) (hb : Below w.heap.size w w') : PlS w' gp A ln c n st := by
  obtain ⟨Ab, cb, f, hc, h0, h1, h2, h3, ho, hn⟩ := h
  exact ⟨Ab, cb, f, hc.later hb, h0, h1, h2, h3, (ho.later hb).mono (Nat.le_refl _) hb.size, hn⟩
theorem RdP.chg {w w' : World} {b c e : Nat} {A : Option Addr} {l : List Pk} (h : RdP w e A l) (he : e ≤ w.heap.size) (k : Chg b c w w') (hr : e ≤ b) : RdP w' e A l := by
  obtain ⟨D, hD, h1, h2⟩ := h
  exact ⟨D, hD, h1.chg he k hr, fun d hd => (h2 d hd).chg he k hr⟩

set_option maxHeartbeats 6400000 in
theorem place_any (l : List Pk) (n : Int) (N : Nat) (hN : (N : Int) = n) (hp : peopleP l n) (A : Option Addr) (c gp : Nat) : ∀ (d : Nat) (who : List Int) (A' : Option Addr) (c' : Nat) (st : List Int × Int) (w : World), RdP w gp A l → OwnL w (gp + 1) w.heap.size A' 1 encInt who → NilOr A' who.length c' → seatsP l who → who.length + d = N → PlS w gp A l.length c n st →
    Calls Tryd.prog 64 #[.pointer (some ⟨gp, 0, none⟩), .slice A' who.length c'] w fun e w' => e = .returned (.tuple #[]) ∧ PlS w' gp A l.length c n (placeF l d who st) ∧ Chg gp (gp + 1) w w' := by
  intro d
  induction d with
  | zero =>
    intro who A' c' st w h h' h0 hs hd hst
    have e4 : (who.length : Int) = n := by omega
    have H := Lib.hid h
    have H' := Lib.hid h'
    have hw7 : who.length ≤ 7 := by have := hp.1.2; omega
    have hpos : 0 < who.length := by have := hp.1.1; omega
    have HSt := Lib.hid hst
    obtain ⟨Ab, cb, f, hcl, z0, z1, z2, z3, hob, hnb⟩ := hst
    have hgp := hcl.lt
    have p0 := hcl.cell (i := 0) (by omega)
    have p1 := hcl.cell (i := 1) (by omega)
    have p2 := hcl.cell (i := 2) (by omega)
    have p3 := hcl.cell (i := 3) (by omega)
    have f2 := hcl.free (i := 2) (by omega)
    have f3 := hcl.free (i := 3) (by omega)
    rw [z0] at p0
    rw [z1] at p1
    rw [z2] at p2
    rw [z3] at p3
    have HC := Lib.hid hcl
    have Z0 := Lib.hid z0
    have Z1 := Lib.hid z1
    clear hcl z0 z1 z2 z3
    have hsk : Hid (∀ (W : World), Below w.heap.size w W → Calls Tryd.prog 46 #[.slice A l.length c, .slice A' who.length c'] W fun e w' => e = .returned (.int .i64 (sk l who)) ∧ W = w') := Lib.hid (fun W hb => skillOf_any l who A A' c c' n W ((h.below hb (by omega)).more (by have := hb.size; omega)) (((h'.rd encInt_len).below hb (Nat.le_refl _)).more hb.size) (by have := hp.len; omega) (by omega) hp e4 hs)
    obtain ⟨S, hS⟩ : ∃ S, Hid (sk l who = S) := ⟨_, Lib.hid rfl⟩
    rw [hS.out] at hsk
    obtain ⟨s0, hs0⟩ : ∃ s0, Hid (st.2 = s0) := ⟨_, Lib.hid rfl⟩
    rw [hs0.out] at p3
    have hcln := cloneG_any who A' c' w (h'.rd encInt_len) (by omega) h0
    have Hcl := Lib.hid hcln
    clear h h' h0 hs hp hd hN hob hnb hcln
    by_cases hc : s0 < S
    · go_enter Tryd.func64, Tryd.ntmps64
      go_wp2_with (first | (go_at_call 46; refine (hsk.out _ (Below.refl _ _)).mono ?_; rintro e w1 ⟨rfl, rfl⟩) | (go_at_call 44; refine Hcl.out.mono ?_; rintro e w2 ⟨v, rfl, hgv, hbo⟩; obtain ⟨Ac, cc, hv, hoc⟩ := hgv.own encInt_len; subst hv; have q2 := (hbo.cell (p := ⟨gp, 2, none⟩) hgp).trans p2; have q3 := (hbo.cell (p := ⟨gp, 3, none⟩) hgp).trans p3; have k2 := (hbo.frozen (p := ⟨gp, 2, none⟩) hgp).trans f2; have k3 := (hbo.frozen (p := ⟨gp, 3, none⟩) hgp).trans f3))
      refine bodyPost_ret (results_none rfl _ _ _) rfl ?_
      have t2 := hbo.size
      have hch : Chg gp (gp + 1) w2 ((w2.setCell ⟨gp, 2, none⟩ (.slice Ac who.length cc)).setCell ⟨gp, 3, none⟩ (.int .i64 S)) := ((Chg.refl _ _ _).setCell (p := ⟨gp, 2, none⟩) (Nat.le_refl _) (Nat.lt_succ_self _) _).setCell (p := ⟨gp, 3, none⟩) (Nat.le_refl _) (Nat.lt_succ_self _) _
      have hpl : placeF l 0 who st = (who, S) := by simp only [placeF]; rw [hS.out, hs0.out, if_pos hc]
      refine ⟨rfl, ?_, (Chg.of_below hbo).trans hch⟩
      rw [hpl]
      refine ⟨Ac, cc, _, ((HC.out.later hbo).set (i := 2) (by omega) _).set (i := 3) (by omega) _, ?_, ?_, ?_, ?_, (hoc.chg hch (by omega)).mono (by omega) hch.size, .inl ⟨hpos, hgv.capN⟩⟩
      · rw [upd_other _ _ _ _ (by omega), upd_other _ _ _ _ (by omega)]; exact Z0.out
      · rw [upd_other _ _ _ _ (by omega), upd_other _ _ _ _ (by omega)]; exact Z1.out
      · rw [upd_other _ _ _ _ (by omega), upd_same]
      · rw [upd_same]
    · have Hc := Lib.hid hc
      have hd : decide (s0 < S) = false := decide_eq_false hc
      clear hc
      go_enter Tryd.func64, Tryd.ntmps64
      go_wp2_with (first | (go_at_call 46; refine (hsk.out _ (Below.refl _ _)).mono ?_; rintro e w1 ⟨rfl, rfl⟩))
      refine bodyPost_ret (results_none rfl _ _ _) rfl ?_
      have hpl : placeF l 0 who st = st := by simp only [placeF]; rw [hS.out, hs0.out, if_neg (by have := Hc.out; omega)]
      exact ⟨rfl, by rw [hpl]; exact HSt.out, Chg.refl _ _ _⟩
  | succ d ih =>
    intro who A' c' st w h h' h0 hs hd hst
    have hn7 : n ≤ 7 := hp.1.2
    have hn3 : 3 ≤ n := hp.1.1
    have hne : ((who.length : Int) == n) = false := by rw [beq_eq_false_iff_ne]; omega
    have hwN : who.length + d + 1 = N := by omega
    have hw7 : who.length ≤ 7 := by omega
    have HRd := Lib.hid h
    obtain ⟨D, rfl, hr, hi⟩ := h
    have hnl : n ≤ D.length := by have := hp.2.1.1; simpa using this
    have hl7 : D.length ≤ 7 := by have := hp.len; simpa using this
    have hLl : (D.map Psn.key).length = D.length := by simp
    have hsk : Hid (∀ (i : Nat) (hi : i < D.length), (D[i].x.length : Int) = n) := Lib.hid (fun i hi => by have := hp.sk (i := i) (by simpa using hi); rw [skAt_key hi] at this; exact this)
    have hs9 : Hid (∀ (i b : Nat) (hi : i < D.length) (hb : b < D[i].x.length), 0 ≤ D[i].x[b] ∧ D[i].x[b] ≤ 9) := Lib.hid (fun i b hi hb => by
      have hl : (D[i].x.length : Int) = n := hsk.out i hi
      obtain ⟨h6, h7, h8⟩ := people_skill hp (i := i) (b := b) (by simpa using hi) (by omega)
      simp only [skAt_key hi] at h7 h8
      exact ⟨h7, h8⟩)
    have hus : Hid (∀ (k : Nat) (hk : k < D.length) (hb : who.length < D[k].x.length), usable (D.map Psn.key) who k ↔ ¬ hasUpTo who who.length k ∧ D[k].x[who.length] ≠ 0) := Lib.hid (fun k hk hb => by unfold usable; rw [skAt_key hk]; simp [hb])
    generalize hL : D.map Psn.key = L at *
    rw [hLl] at hst ⊢
    have HL := Lib.hid hL
    have HLl := Lib.hid hLl
    have HP := Lib.hid hp
    have Hn := Lib.hid hN
    have Hd := Lib.hid hd
    have H0 := Lib.hid h0
    have HS := Lib.hid hs
    obtain ⟨g, off, rfl, hg, hcd⟩ := people_cells hr (by omega)
    have H' := Lib.hid h'
    have Hi := Lib.hid hi
    have Hcd := Lib.hid hcd
    have Hih := Lib.hid ih
    have HSt := Lib.hid hst
    obtain ⟨Ab, cb, f, hcl, z0, z1, z2, z3, hob, hnb⟩ := hst
    have hgp := hcl.lt
    have p0 := hcl.cell (i := 0) (by omega)
    have p1 := hcl.cell (i := 1) (by omega)
    rw [z0] at p0
    rw [z1] at p1
    clear hr hi hcd h' h0 hs hd hN hp hL hLl ih hcl z0 z1 z2 z3 hob hnb
    go_enter Tryd.func64, Tryd.ntmps64
    go_wp2
    go_loopw [40] (fun i wr => ∃ k : Nat, k ≤ D.length ∧ i = .int .i64 k ∧ PlS wr gp (some ⟨g, off, none⟩) D.length c n (placeTo L (placeF L d) who st k) ∧ Chg gp (gp + 1) w wr) (fun i _ => D.length - (intOf i).toNat)
    case atStart => exact ⟨0, by omega, by rfl, HSt.out, Chg.refl _ _ _⟩
    case round =>
      obtain ⟨k, hk, rfl, hpl, hch⟩ := hrel
      have Hpl := Lib.hid hpl
      have Hch := Lib.hid hch
      have hg0 := hch.size
      clear hpl hch
      by_cases hlt : k < D.length
      · have r0 := (Hch.out.cell (p := ⟨g, off + k * 2, none⟩) (show g < w.heap.size by omega) (.inl hg)).trans (Hcd.out k hlt).1
        have r1 := (Hch.out.cell (p := ⟨g, off + k * 2 + 1, none⟩) (show g < w.heap.size by omega) (.inl hg)).trans (Hcd.out k hlt).2
        have hxn := hsk.out k hlt
        have hxb : who.length < D[k].x.length := by have := Hn.out; omega
        have hu := hus.out k hlt hxb
        obtain ⟨hv0, hv9⟩ := hs9.out k who.length hlt hxb
        obtain ⟨g3, off3, hA3, hg3, hc3⟩ := (Hi.out _ (List.getElem_mem hlt)).ints (show 0 < D[k].x.length by omega)
        rw [hA3] at r1
        have hs3 := hc3 who.length hxb
        clear hc3 hA3
        generalize D[k].x[who.length] = sv at hs3 hu hv0 hv9
        have Hu := Lib.hid hu
        obtain ⟨x, hx⟩ : ∃ x, Hid (D[k] = x) := ⟨_, Lib.hid rfl⟩
        rw [hx.out] at r0 r1 hxn hxb
        have Hbw : Hid (Below wr.heap.size wr (wr.alloc (.cells #[.string x.name, .slice (some ⟨g3, off3, none⟩) x.x.length x.c] 84))) := Lib.hid ((Below.refl _ _).alloc (Nat.le_refl _) _)
        have Hch1 : Hid (Chg gp (gp + 1) w (wr.alloc (.cells #[.string x.name, .slice (some ⟨g3, off3, none⟩) x.x.length x.c] 84))) := Lib.hid (Hch.out.below Hbw.out)
        have t1 : wr.heap.size < (wr.alloc (.cells #[.string x.name, .slice (some ⟨g3, off3, none⟩) x.x.length x.c] 84)).heap.size := by simp
        have s0 := (Hch1.out.cell (p := ⟨g3, off3 + who.length, none⟩) (show g3 < w.heap.size by omega) (.inl hg3)).trans hs3
        have Ho2 : Hid (OwnL (wr.alloc (.cells #[.string x.name, .slice (some ⟨g3, off3, none⟩) x.x.length x.c] 84)) (gp + 1) w.heap.size A' 1 encInt who) := Lib.hid (H'.out.chg Hch1.out (.inr (Nat.le_refl _)))
        have H2 : Hid (RdL (wr.alloc (.cells #[.string x.name, .slice (some ⟨g3, off3, none⟩) x.x.length x.c] 84)) (wr.alloc (.cells #[.string x.name, .slice (some ⟨g3, off3, none⟩) x.x.length x.c] 84)).heap.size A' 1 encInt who) := Lib.hid (Ho2.out.rd encInt_len)
        clear hs3 hu hxn
        by_cases c2 : sv = 0
        · have hno : Hid (¬ usable L who k) := Lib.hid (fun h => (Hu.out.1 h).2 c2)
          subst c2
          go_wp2_with (go_at_call 86; refine (containsInt_any who who.length (Nat.le_refl _) _ _ _ _ H2.out (by omega)).mono ?_; rintro e w' ⟨rfl, rfl⟩)
          go_roundw
          case rel => exact ⟨k + 1, by omega, by go_num, by rw [placeTo_no hno.out]; exact Hpl.out.later Hbw.out, Hch1.out⟩
          case measure => simp [intOf]; omega
        · have c3 : 0 < sv := by omega
          have d3 : decide (0 < sv) = true := decide_eq_true c3
          by_cases c1 : hasUpTo who who.length k
          · have f1 := B_t c1
            have hno : Hid (¬ usable L who k) := Lib.hid (fun h => (Hu.out.1 h).1 c1)
            clear c1
            go_wp2_with (go_at_call 86; refine (containsInt_any who who.length (Nat.le_refl _) _ _ _ _ H2.out (by omega)).mono ?_; rintro e w' ⟨rfl, rfl⟩)
            go_roundw
            case rel => exact ⟨k + 1, by omega, by go_num, by rw [placeTo_no hno.out]; exact Hpl.out.later Hbw.out, Hch1.out⟩
            case measure => simp [intOf]; omega
          · have f1 := B_f c1
            have hyes : Hid (usable L who k) := Lib.hid (Hu.out.2 ⟨c1, c2⟩)
            clear c1
            obtain ⟨wk, hwk⟩ : ∃ wk, Hid (wk = who ++ [(k : Int)]) := ⟨_, Lib.hid rfl⟩
            have hwkl : wk.length ≤ 1048576 := by rw [hwk.out]; simp; omega
            have hsw : Hid (seatsP L wk) := Lib.hid (by rw [hwk.out]; exact seats_snoc HS.out (by rw [HLl.out]; exact hlt) hyes.out)
            obtain ⟨sk0, hsk0⟩ : ∃ s, Hid (placeTo L (placeF L d) who st k = s) := ⟨_, Lib.hid rfl⟩
            have hpl2 := Hpl.out
            rw [hsk0.out] at hpl2
            have Hpl2 := Lib.hid hpl2
            clear hpl2
            have hIH : Hid (∀ (A3 : Option Addr) (c3 : Nat) (W : World), RdP W gp (some ⟨g, off, none⟩) L → OwnL W (gp + 1) W.heap.size A3 1 encInt wk → wk.length ≤ c3 → PlS W gp (some ⟨g, off, none⟩) D.length c n sk0 → Calls Tryd.prog 64 #[.pointer (some ⟨gp, 0, none⟩), .slice A3 wk.length c3] W fun e w' => e = .returned (.tuple #[]) ∧ PlS w' gp (some ⟨g, off, none⟩) D.length c n (placeF L d wk sk0) ∧ Chg gp (gp + 1) W w') := Lib.hid (fun A3 c3 W h2 h3 h5 h4 => by
              have := Hih.out wk A3 c3 sk0 W h2 h3 (.inl ⟨by rw [hwk.out]; simp, h5⟩) hsw.out (by rw [hwk.out]; simp; omega) (by rw [HLl.out]; exact h4)
              rw [HLl.out] at this; exact this)
            have hone : ∀ u ∈ [Value.int .i64 (k : Int)], u.oneCell' = true := by simp [Value.oneCell']
            have Hone := Lib.hid hone
            clear hone
            go_wp2_with (first | (go_at_call 86; refine (containsInt_any who who.length (Nat.le_refl _) _ _ _ _ H2.out (by omega)).mono ?_; rintro e w' ⟨rfl, rfl⟩) | (go_at_call 44; refine (cloneG_any who A' c' _ H2.out (by omega) H0.out).mono ?_; rintro e w2 ⟨v, rfl, hgv, hbo⟩; have hbos := hbo.size) | (at_builtin; refine wpList_push rfl (.tmp 60) (.tmp 62) 42 rfl _ 3 _ 1 8 encInt rfl Int_info rfl (by omega) v who [(k : Int)] 1 rfl rfl (by simp) hgv rfl encInt_len Hone.out (by first | omega | (simp; omega)) (by omega) (by first | omega | (simp; omega)) ?_; intro v' w3 hg3 hb3 _; rw [← hwk.out] at hg3; obtain ⟨A3, c3, hv, ho3⟩ := hg3.own encInt_len; subst hv; have hb3s := hb3.size; have hwr3 : Below wr.heap.size wr w3 := (Hbw.out.trans (hbo.mono (by omega))).trans (hb3.mono (by omega))) | (go_at_call 64; refine (hIH.out A3 c3 w3 ((HRd.out.chg (Nat.le_of_lt hgp) (Hch.out.below hwr3) (Nat.le_refl _))) (ho3.mono (by omega) (Nat.le_refl _)) hg3.capN (Hpl2.out.later hwr3)).mono ?_; rintro e w4 ⟨rfl, hpl4, hch4⟩))
            go_roundw
            case rel => exact ⟨k + 1, by omega, by go_num, by rw [placeTo_y hyes.out, hsk0.out, ← hwk.out]; exact hpl4, (Hch.out.below hwr3).trans hch4⟩
            case measure => simp [intOf]; omega
      · obtain rfl : k = D.length := by omega
        go_wp2
        first | (refine bodyPost_ret (results_none rfl _ _ _) rfl ?_) | go_end0
        refine ⟨rfl, ?_, Hch.out⟩
        have := Hpl.out
        simp only [placeF]
        rw [HLl.out]; exact this
/-- There is a placing. -/
def bestP (l : List Pk) (n : Int) : Prop := peopleP l n ∧ 0 < (best l n.toNat []).length
theorem best_len {l : List Pk} {n : Int} (h : peopleP l n) : (best l n.toNat []).length ≤ 7 := by
  rcases best_full (N := n.toNat) n.toNat [] (seats_nil (l := l)) (by simp) with h1 | ⟨_, h1⟩
  · rw [h1]; simp
  · have := h.1.2; omega



set_option maxHeartbeats 1600000 in
theorem sBestC_t (l : List Pk) (A : Option Addr) (c : Nat) (n : Int) (w : World) (h : RdP w w.heap.size A l) (hl : l.length ≤ 1048576) (hc : l.length ≤ c) (hs : ∀ x ∈ l, Person_small 1048576 x) (hp : bestP l n) :
    Calls Tryd.prog 113 #[.slice A l.length c, .int .i64 n] w fun e w' => ∃ A2 c2, e = .returned (.tuple #[.slice A2 (best l n.toNat []).length c2, .bool true]) ∧ (best l n.toNat []).length ≤ c2 ∧ OwnL w' w.heap.size w'.heap.size A2 1 encInt (best l n.toNat []) ∧ Below w.heap.size w w' := by
  have H := Lib.hid h
  have Hs := Lib.hid hs
  have e1 := B_t hp.1
  have HP := Lib.hid hp.1
  have HN : Hid ((n.toNat : Int) = n) := Lib.hid (by have := hp.1.1.1; omega)
  have hpos := hp.2
  clear h hs hp
  go_enter Tryd.func113, Tryd.ntmps113
  go_wp2_with (first | (go_at_call 62; refine (sPeople_any l A c n _ H.out hl hc Hs.out).mono ?_; rintro e w1 ⟨rfl, hb1⟩; have t1 := hb1.size) | (go_at_call 133; refine (l27Best_any l n n.toNat HN.out HP.out A c n.toNat [] none 0 w1 w1.heap.size (Nat.le_refl _) ((H.out.below hb1 (Nat.le_refl _)).more t1) OwnL.nil (.inr ⟨rfl, rfl, rfl⟩) seats_nil (by simp)).mono ?_; rintro e w2 ⟨A2, c2, rfl, ho, hno, hb2⟩; have Ho := Lib.hid ho; have Hno := Lib.hid hno; clear ho hno; have t2 := hb2.size))
  go_ret2
  exact ⟨A2, c2, rfl, Hno.out.cap, Ho.out.mono t1 (Nat.le_refl _), hb1.trans (hb2.mono t1)⟩
theorem sBest_t (l : List Pk) (A : Option Addr) (c : Nat) (n : Int) (w : World) (h : RdP w w.heap.size A l) (hl : l.length ≤ 1048576) (hc : l.length ≤ c) (hs : ∀ x ∈ l, Person_small 1048576 x) (hp : bestP l n) :
    Calls Tryd.prog 113 #[.slice A l.length c, .int .i64 n] w fun e w' => ∃ A2 c2, e = .returned (.tuple #[.slice A2 (best l n.toNat []).length c2, .bool true]) ∧ OwnL w' w.heap.size w'.heap.size A2 1 encInt (best l n.toNat []) ∧ Below w.heap.size w w' :=
  (sBestC_t l A c n w h hl hc hs hp).mono fun e w' ⟨A2, c2, h1, _, h2⟩ => ⟨A2, c2, h1, h2⟩
set_option maxHeartbeats 1600000 in
theorem sBest_f (l : List Pk) (A : Option Addr) (c : Nat) (n : Int) (w : World) (h : RdP w w.heap.size A l) (hl : l.length ≤ 1048576) (hc : l.length ≤ c) (hs : ∀ x ∈ l, Person_small 1048576 x) (hp : ¬ bestP l n) :
    Calls Tryd.prog 113 #[.slice A l.length c, .int .i64 n] w fun e w' => e = .returned (.tuple #[.slice none 0 0, .bool false]) ∧ Below w.heap.size w w' := by
  have H := Lib.hid h
  have Hs := Lib.hid hs
  by_cases p1 : peopleP l n
  · have e1 := B_t p1
    have HP := Lib.hid p1
    have HN : Hid ((n.toNat : Int) = n) := Lib.hid (by have := p1.1.1; omega)
    have hY : best l n.toNat [] = [] := List.eq_nil_of_length_eq_zero (by have : ¬ 0 < (best l n.toNat []).length := fun x => hp ⟨p1, x⟩; omega)
    have HY := Lib.hid hY
    clear h hs hp p1 hY
    go_enter Tryd.func113, Tryd.ntmps113
    go_wp2_with (first | (go_at_call 62; refine (sPeople_any l A c n _ H.out hl hc Hs.out).mono ?_; rintro e w1 ⟨rfl, hb1⟩; have t1 := hb1.size) | (go_at_call 133; refine (l27Best_any l n n.toNat HN.out HP.out A c n.toNat [] none 0 w1 w1.heap.size (Nat.le_refl _) ((H.out.below hb1 (Nat.le_refl _)).more t1) OwnL.nil (.inr ⟨rfl, rfl, rfl⟩) seats_nil (by simp)).mono ?_; rintro e w2 ⟨A2, c2, he, ho, hno, hb2⟩; rw [HY.out] at he hno; obtain ⟨_, rfl, rfl⟩ := hno.resolve_left (by simp); subst he; clear ho))
    go_ret2
    exact ⟨rfl, hb1.trans (hb2.mono t1)⟩
  · have e1 := B_f p1
    clear h hs hp p1
    go_enter Tryd.func113, Tryd.ntmps113
    go_wp2_with (first | (go_at_call 62; refine (sPeople_any l A c n _ H.out hl hc Hs.out).mono ?_; rintro e w1 ⟨rfl, hb1⟩; have t1 := hb1.size))
    go_ret2
    exact ⟨rfl, hb1⟩

set_option maxHeartbeats 1600000 in
theorem iBestC_t (l : List Pk) (A : Option Addr) (c : Nat) (n : Int) (w : World) (h : RdP w w.heap.size A l) (hl : l.length ≤ 1048576) (hc : l.length ≤ c) (hs : ∀ x ∈ l, Person_small 1048576 x) (hp : bestP l n) :
    Calls Tryd.prog 26 #[.slice A l.length c, .int .i64 n] w fun e w' => ∃ A2 c2, e = .returned (.tuple #[.slice A2 (best l n.toNat []).length c2, .bool true]) ∧ (best l n.toNat []).length ≤ c2 ∧ OwnL w' w.heap.size w'.heap.size A2 1 encInt (best l n.toNat []) ∧ Below w.heap.size w w' := by
  have H := Lib.hid h
  have Hs := Lib.hid hs
  have e1 := B_t hp.1
  have HP := Lib.hid hp.1
  have HN : Hid ((n.toNat : Int) = n) := Lib.hid (by have := hp.1.1.1; omega)
  have hpos := hp.2
  have hrec : Hid (rec1 l (best l n.toNat []) ([], 0) = (best l n.toNat [], sk l (best l n.toNat []))) := Lib.hid (rec1_y hpos (by
    rcases best_full (N := n.toNat) n.toNat [] (seats_nil (l := l)) (by simp) with h1 | ⟨h1, h2⟩
    · rw [h1] at hpos; simp at hpos
    · exact sk_pos HP.out (by rw [h2]; exact HN.out) h1))
  clear h hs hp
  have hq : ∀ (w : World) (a : Option Addr) (n c : Nat), (binOp .eql 42 (.slice a n c) (.slice none 0 0)).run Tryd.prog w = .ok (.bool a.isNone) w := fun w a n c => Lib.run_eql_slice_nil w _ 3 a n c 0 0 rfl
  have hpl : Hid (∀ (w1 : World), Below w.heap.size w w1 → Calls Tryd.prog 64 #[.pointer (some ⟨w1.heap.size, 0, none⟩), .slice none 0 0] (w1.alloc (.cells #[.slice A l.length c, .int .i64 n, .slice none 0 0, .int .i64 0] 97)) fun e w' => e = .returned (.tuple #[]) ∧ PlS w' w1.heap.size A l.length c n (rec1 l (best l n.toNat []) ([], 0)) ∧ Chg w1.heap.size (w1.heap.size + 1) (w1.alloc (.cells #[.slice A l.length c, .int .i64 n, .slice none 0 0, .int .i64 0] 97)) w') := Lib.hid (fun w1 hb1 => by
    have hba : Below w.heap.size w (w1.alloc (.cells #[.slice A l.length c, .int .i64 n, .slice none 0 0, .int .i64 0] 97)) := hb1.alloc hb1.size _
    have hr : RdP (w1.alloc (.cells #[.slice A l.length c, .int .i64 n, .slice none 0 0, .int .i64 0] 97)) w1.heap.size A l := (H.out.below hba (Nat.le_refl _)).more hb1.size
    have hst : PlS (w1.alloc (.cells #[.slice A l.length c, .int .i64 n, .slice none 0 0, .int .i64 0] 97)) w1.heap.size A l.length c n ([], 0) :=
      ⟨none, 0, fun i => (#[.slice A l.length c, .int .i64 n, .slice none 0 0, .int .i64 0] : Array Value).getD i undef, Cells.new _ _ _ _ _ (fun i hi => by
        rcases (show i = 0 ∨ i = 1 ∨ i = 2 ∨ i = 3 by omega) with rfl | rfl | rfl | rfl <;> rfl), rfl, rfl, rfl, rfl, OwnL.nil, .inr ⟨rfl, rfl, rfl⟩⟩
    have := place_any l n n.toNat HN.out HP.out A c w1.heap.size n.toNat [] none 0 ([], 0) _ hr OwnL.nil (.inr ⟨rfl, rfl, rfl⟩) seats_nil (by simp) hst
    rw [placeF_best l n.toNat [] ([], 0) (by have := HP.out.1.1; have := HN.out; simp; omega)] at this
    exact this)
  obtain ⟨Y, hY⟩ : ∃ Y, Hid (best l n.toNat [] = Y) := ⟨_, Lib.hid rfl⟩
  rw [hY.out] at hpos hrec hpl ⊢
  go_enter Tryd.func26, Tryd.ntmps26
  go_wp2_with (first | (go_at_call 58; refine (iPeople_any l A c n _ H.out hl hc Hs.out).mono ?_; rintro e w1 ⟨rfl, hb1⟩; have t1 := hb1.size) | (go_at_call 64; refine (hpl.out w1 hb1).mono ?_; rintro e w2 ⟨rfl, hst, hch⟩; rw [hrec.out] at hst; obtain ⟨Ab, cb, f, hcl, z0, z1, z2, z3, hob, hnb⟩ := hst; have q2 := hcl.cell (i := 2) (by omega); rw [z2] at q2; obtain ⟨gb, rfl, hgb1, hgb2, hgb3⟩ := hob.some_of hpos; have Hob := Lib.hid hob; have HCh := Lib.hid hch; have Hnb := Lib.hid hnb.cap; clear hob hch hcl z0 z1 z2 z3 hnb))
  go_ret2
  exact ⟨_, cb, rfl, Hnb.out, Hob.out.mono (by omega) (Nat.le_refl _), Below.chg (hb1.alloc t1 _) HCh.out t1 (by simp; omega)⟩
theorem iBest_t (l : List Pk) (A : Option Addr) (c : Nat) (n : Int) (w : World) (h : RdP w w.heap.size A l) (hl : l.length ≤ 1048576) (hc : l.length ≤ c) (hs : ∀ x ∈ l, Person_small 1048576 x) (hp : bestP l n) :
    Calls Tryd.prog 26 #[.slice A l.length c, .int .i64 n] w fun e w' => ∃ A2 c2, e = .returned (.tuple #[.slice A2 (best l n.toNat []).length c2, .bool true]) ∧ OwnL w' w.heap.size w'.heap.size A2 1 encInt (best l n.toNat []) ∧ Below w.heap.size w w' :=
  (iBestC_t l A c n w h hl hc hs hp).mono fun e w' ⟨A2, c2, h1, _, h2⟩ => ⟨A2, c2, h1, h2⟩
set_option maxHeartbeats 1600000 in
theorem iBest_f (l : List Pk) (A : Option Addr) (c : Nat) (n : Int) (w : World) (h : RdP w w.heap.size A l) (hl : l.length ≤ 1048576) (hc : l.length ≤ c) (hs : ∀ x ∈ l, Person_small 1048576 x) (hp : ¬ bestP l n) :
    Calls Tryd.prog 26 #[.slice A l.length c, .int .i64 n] w fun e w' => e = .returned (.tuple #[.slice none 0 0, .bool false]) ∧ Below w.heap.size w w' := by
  have H := Lib.hid h
  have Hs := Lib.hid hs
  by_cases p1 : peopleP l n
  · have e1 := B_t p1
    have HP := Lib.hid p1
    have HN : Hid ((n.toNat : Int) = n) := Lib.hid (by have := p1.1.1; omega)
    have hY : best l n.toNat [] = [] := List.eq_nil_of_length_eq_zero (by have : ¬ 0 < (best l n.toNat []).length := fun x => hp ⟨p1, x⟩; omega)
    have hrec : Hid (rec1 l (best l n.toNat []) ([], 0) = (([] : List Int), (0 : Int))) := Lib.hid (by rw [hY]; unfold rec1; rw [if_neg (by simp)])
    clear h hs hp p1 hY
    have hq : ∀ (w : World) (a : Option Addr) (n c : Nat), (binOp .eql 42 (.slice a n c) (.slice none 0 0)).run Tryd.prog w = .ok (.bool a.isNone) w := fun w a n c => Lib.run_eql_slice_nil w _ 3 a n c 0 0 rfl
    have hpl : Hid (∀ (w1 : World), Below w.heap.size w w1 → Calls Tryd.prog 64 #[.pointer (some ⟨w1.heap.size, 0, none⟩), .slice none 0 0] (w1.alloc (.cells #[.slice A l.length c, .int .i64 n, .slice none 0 0, .int .i64 0] 97)) fun e w' => e = .returned (.tuple #[]) ∧ PlS w' w1.heap.size A l.length c n (rec1 l (best l n.toNat []) ([], 0)) ∧ Chg w1.heap.size (w1.heap.size + 1) (w1.alloc (.cells #[.slice A l.length c, .int .i64 n, .slice none 0 0, .int .i64 0] 97)) w') := Lib.hid (fun w1 hb1 => by
      have hba : Below w.heap.size w (w1.alloc (.cells #[.slice A l.length c, .int .i64 n, .slice none 0 0, .int .i64 0] 97)) := hb1.alloc hb1.size _
      have hr : RdP (w1.alloc (.cells #[.slice A l.length c, .int .i64 n, .slice none 0 0, .int .i64 0] 97)) w1.heap.size A l := (H.out.below hba (Nat.le_refl _)).more hb1.size
      have hst : PlS (w1.alloc (.cells #[.slice A l.length c, .int .i64 n, .slice none 0 0, .int .i64 0] 97)) w1.heap.size A l.length c n ([], 0) :=
        ⟨none, 0, fun i => (#[.slice A l.length c, .int .i64 n, .slice none 0 0, .int .i64 0] : Array Value).getD i undef, Cells.new _ _ _ _ _ (fun i hi => by
          rcases (show i = 0 ∨ i = 1 ∨ i = 2 ∨ i = 3 by omega) with rfl | rfl | rfl | rfl <;> rfl), rfl, rfl, rfl, rfl, OwnL.nil, .inr ⟨rfl, rfl, rfl⟩⟩
      have := place_any l n n.toNat HN.out HP.out A c w1.heap.size n.toNat [] none 0 ([], 0) _ hr OwnL.nil (.inr ⟨rfl, rfl, rfl⟩) seats_nil (by simp) hst
      rw [placeF_best l n.toNat [] ([], 0) (by have := HP.out.1.1; have := HN.out; simp; omega)] at this
      exact this)
    go_enter Tryd.func26, Tryd.ntmps26
    go_wp2_with (first | (go_at_call 58; refine (iPeople_any l A c n _ H.out hl hc Hs.out).mono ?_; rintro e w1 ⟨rfl, hb1⟩; have t1 := hb1.size) | (go_at_call 64; refine (hpl.out w1 hb1).mono ?_; rintro e w2 ⟨rfl, hst, hch⟩; rw [hrec.out] at hst; obtain ⟨Ab, cb, f, hcl, z0, z1, z2, z3, hob, hnb⟩ := hst; have q2 := hcl.cell (i := 2) (by omega); obtain ⟨_, rfl, rfl⟩ := hnb.resolve_left (by simp); rw [z2] at q2; have HCh := Lib.hid hch; clear hob hch hcl z0 z1 z2 z3))
    go_ret2
    exact ⟨rfl, Below.chg (hb1.alloc t1 _) HCh.out t1 (by simp; omega)⟩
  · have e1 := B_f p1
    clear h hs hp p1
    go_enter Tryd.func26, Tryd.ntmps26
    go_wp2_with (first | (go_at_call 58; refine (iPeople_any l A c n _ H.out hl hc Hs.out).mono ?_; rintro e w1 ⟨rfl, hb1⟩; have t1 := hb1.size))
    go_ret2
    exact ⟨rfl, hb1⟩
end Go.Proofs.YtbfhfnejppfehaaDoor
