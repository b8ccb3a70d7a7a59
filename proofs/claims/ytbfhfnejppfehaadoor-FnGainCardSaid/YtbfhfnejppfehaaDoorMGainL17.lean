import Derived.Test.YtbfhfnejppfehaaDoorMGainL13
import Derived.Test.YtbfhfnejppfehaaDoorMGainL06
import Derived.WalkSpells
import Derived.Lib.SliceRun
import Derived.Laws.AppendOwnNone
/-
  Contracts: the best placing (both sides).
-/
namespace Go.Proofs.YtbfhfnejppfehaaDoor
open Go.RowKit
set_option linter.unusedVariables false
set_option linter.unusedSimpArgs false
set_option maxRecDepth 100000

/-- A slice that is nil where it is empty. -/
def NilOr (A : Option Addr) (n c : Nat) : Prop := (0 < n ∧ n ≤ c) ∨ (n = 0 ∧ A = none ∧ c = 0)
theorem NilOr.cap {A : Option Addr} {n c : Nat} (h : NilOr A n c) : n ≤ c := by rcases h with ⟨_, h⟩ | ⟨h, _⟩ <;> omega

theorem l1OwnG_any (l : List Int) (A : Option Addr) (c : Nat) (w : World) (h : RdL w w.heap.size A 1 encInt l) (hl : l.length ≤ 1048576) (h0 : NilOr A l.length c) :
    Calls Tryd.prog 49 #[.slice A l.length c] w fun e w' => ∃ v, e = .returned v ∧ Grow w' w.heap.size 3 1 encInt v l ∧ Below w.heap.size w w' := by
  have hq : ∀ (w : World) (a : Option Addr) (n c : Nat), (binOp .eql 42 (.slice a n c) (.slice none 0 0)).run Tryd.prog w = .ok (.bool a.isNone) w := fun w a n c => Lib.run_eql_slice_nil w _ 3 a n c 0 0 rfl
  rcases h0 with ⟨h0, _⟩ | ⟨h0, hA, hc⟩
  · obtain ⟨g, off, hA, _, _⟩ := h.at h0
    subst hA
    have H := Lib.hid h
    clear h
    go_enter Tryd.func49, Tryd.ntmps49
    go_wp2_with (at_builtin; refine wpList_pushAll rfl _ _ 42 rfl w.heap.size 3 _ 1 8 encInt rfl Int_info rfl (by omega) _ [] l _ _ w.heap.size rfl rfl (H.out.below ((Below.refl _ _).alloc (Nat.le_refl _) _) (Nat.le_refl _)) h0 (Grow.empty (Nat.le_refl _)) encInt_len (by simp [encInt, Value.oneCell']) (by first | (simp; done) | (simp; omega)) (by omega) (by simp) ?_; intro v' w2 hg2 hb2 hgb)
    go_ret
    exact ⟨_, rfl, hg2, ((Below.refl _ _).alloc (Nat.le_refl _) _).trans hb2⟩
  · obtain rfl : l = [] := List.eq_nil_of_length_eq_zero h0
    subst hA hc
    clear h
    obtain ⟨ii, hii, _⟩ := Option.map_eq_some_iff.1 Int_info
    go_enter Tryd.func49, Tryd.ntmps49
    go_wp2_with (at_builtin; refine wpList_append_own_none rfl _ _ 42 rfl w.heap.size 3 _ 1 rfl hii _ 0 (flat encInt []) rfl (Grow.empty (Nat.le_refl _)) rfl ?_)
    go_ret
    exact ⟨_, rfl, Grow.empty (Nat.le_refl _), (Below.refl _ _).alloc (Nat.le_refl _) _⟩
theorem cloneG_any (l : List Int) (A : Option Addr) (c : Nat) (w : World) (h : RdL w w.heap.size A 1 encInt l) (hl : l.length ≤ 1048576) (h0 : NilOr A l.length c) :
    Calls Tryd.prog 44 #[.slice A l.length c] w fun e w' => ∃ v, e = .returned v ∧ Grow w' w.heap.size 3 1 encInt v l ∧ Below w.heap.size w w' := by
  have hq : ∀ (w : World) (a : Option Addr) (n c : Nat), (binOp .eql 42 (.slice a n c) (.slice none 0 0)).run Tryd.prog w = .ok (.bool a.isNone) w := fun w a n c => Lib.run_eql_slice_nil w _ 3 a n c 0 0 rfl
  rcases h0 with ⟨h0, _⟩ | ⟨h0, hA, hc⟩
  · obtain ⟨g, off, hA, _, _⟩ := h.at h0
    subst hA
    have H := Lib.hid h
    clear h
    go_enter Tryd.func44, Tryd.ntmps44
    go_wp2_with (at_builtin; refine wpList_pushAll rfl _ _ 42 rfl w.heap.size 3 _ 1 8 encInt rfl Int_info rfl (by omega) _ [] l _ _ w.heap.size rfl rfl (H.out.below ((Below.refl _ _).alloc (Nat.le_refl _) _) (Nat.le_refl _)) h0 (Grow.empty (Nat.le_refl _)) encInt_len (by simp [encInt, Value.oneCell']) (by first | (simp; done) | (simp; omega)) (by omega) (by simp) ?_; intro v' w2 hg2 hb2 hgb)
    go_ret
    exact ⟨_, rfl, hg2, ((Below.refl _ _).alloc (Nat.le_refl _) _).trans hb2⟩
  · obtain rfl : l = [] := List.eq_nil_of_length_eq_zero h0
    subst hA hc
    clear h
    obtain ⟨ii, hii, _⟩ := Option.map_eq_some_iff.1 Int_info
    go_enter Tryd.func44, Tryd.ntmps44
    go_wp2
    go_ret
    exact ⟨_, rfl, Grow.nil, Below.refl _ _⟩
theorem peopleP.len {l : List Pk} {n : Int} (h : peopleP l n) : l.length ≤ 7 := by have := h.2.1.2; omega


set_option maxHeartbeats 6400000 in
theorem l27Best_any (l : List Pk) (n : Int) (N : Nat) (hN : (N : Int) = n) (hp : peopleP l n) (A : Option Addr) (c : Nat) : ∀ (d : Nat) (who : List Int) (A' : Option Addr) (c' : Nat) (w : World) (b0 : Nat), b0 ≤ w.heap.size → RdP w b0 A l → OwnL w b0 w.heap.size A' 1 encInt who → NilOr A' who.length c' → seatsP l who → who.length + d = N →
    Calls Tryd.prog 133 #[.slice A l.length c, .int .i64 n, .slice A' who.length c'] w fun e w' => ∃ A2 c2, e = .returned (.slice A2 (best l d who).length c2) ∧ OwnL w' b0 w'.heap.size A2 1 encInt (best l d who) ∧ NilOr A2 (best l d who).length c2 ∧ Below w.heap.size w w' := by
  intro d
  induction d with
  | zero =>
    intro who A' c' w b0 hb0 h h' h0 hs hd
    have e4 : (who.length : Int) = n := by omega
    have H' := Lib.hid h'
    have H0 := Lib.hid h0
    have hw7 : who.length ≤ 7 := by have := hp.1.2; omega
    clear h h' h0 hs hp hd hN
    go_enter Tryd.func133, Tryd.ntmps133
    go_wp2
    go_ret
    exact ⟨A', c', rfl, H'.out, H0.out, Below.refl _ _⟩
  | succ d ih =>
    intro who A' c' w b0 hb0 h h' h0 hs hd
    have hn7 : n ≤ 7 := hp.1.2
    have hn3 : 3 ≤ n := hp.1.1
    have hne : ((who.length : Int) == n) = false := by rw [beq_eq_false_iff_ne]; omega
    have hwN : who.length + d + 1 = N := by omega
    have HRd := Lib.hid h
    obtain ⟨D, rfl, hr, hi⟩ := h
    have hnl : n ≤ D.length := by have := hp.2.1.1; simpa using this
    have hl7 : D.length ≤ 7 := by have := hp.len; simpa using this
    have hw7 : who.length ≤ 7 := by omega
    have hLl : (D.map Psn.key).length = D.length := by simp
    have hsk : Hid (∀ (i : Nat) (hi : i < D.length), (D[i].x.length : Int) = n) := Lib.hid (fun i hi => by have := hp.sk (i := i) (by simpa using hi); rw [skAt_key hi] at this; exact this)
    have hus : Hid (∀ (k : Nat) (hk : k < D.length) (hb : who.length < D[k].x.length), usable (D.map Psn.key) who k ↔ ¬ hasUpTo who who.length k ∧ D[k].x[who.length] ≠ 0) := Lib.hid (fun k hk hb => by unfold usable; rw [skAt_key hk]; simp [hb])
    generalize hL : D.map Psn.key = L at *
    rw [hLl]
    have HL := Lib.hid hL
    have HLl := Lib.hid hLl
    have HP := Lib.hid hp
    have Hn := Lib.hid hN
    have Hd := Lib.hid hd
    have H0 := Lib.hid h0
    have HS := Lib.hid hs
    obtain ⟨g, off, rfl, hg, hcd⟩ := people_cells hr (by omega)
    have H' := Lib.hid h'
    have Hi := Lib.hid hi
    have Hcd := Lib.hid hcd
    have Hih := Lib.hid ih
    clear hr hi hcd h' h0 hs hd hN hp hL hLl ih
    have hgw : g < w.heap.size := by omega
    go_enter Tryd.func133, Tryd.ntmps133
    go_wp2
    go_loopw [8, 20] (fun v i wr => ∃ (k : Nat) (B : List Int) (Ab : Option Addr) (cb : Nat), k ≤ D.length ∧ i = .int .i64 k ∧ v = .slice Ab B.length cb ∧ Hid (B = bestTo L (best L d) who k) ∧ Hid (NilOr Ab B.length cb) ∧ OwnL wr b0 wr.heap.size Ab 1 encInt B ∧ Below w.heap.size w wr) (fun _ i _ => D.length - (intOf i).toNat)
    case atStart => exact ⟨0, [], none, 0, by omega, by rfl, rfl, Lib.hid rfl, Lib.hid (.inr ⟨rfl, rfl, rfl⟩), OwnL.nil, Below.refl _ _⟩
    case round =>
      obtain ⟨k, B, Ab, cb, hk, rfl, rfl, HB, HNB, hob, hbl⟩ := hrel
      have Hob := Lib.hid hob
      have Hb0 := Lib.hid hbl
      have hg0 := hbl.size
      clear hob hbl
      by_cases hlt : k < D.length
      · have r0 := (Hb0.out.cell (p := ⟨g, off + k * 2, none⟩) hgw).trans (Hcd.out k hlt).1
        have r1 := (Hb0.out.cell (p := ⟨g, off + k * 2 + 1, none⟩) hgw).trans (Hcd.out k hlt).2
        have hxn := hsk.out k hlt
        have hxb : who.length < D[k].x.length := by have := Hn.out; omega
        have hu := hus.out k hlt hxb
        obtain ⟨g3, off3, hA3, hg3, hc3⟩ := (Hi.out _ (List.getElem_mem hlt)).ints (show 0 < D[k].x.length by omega)
        rw [hA3] at r1
        have hs3 := hc3 who.length hxb
        clear hc3 hA3
        generalize D[k].x[who.length] = sv at hs3 hu
        have Hu := Lib.hid hu
        obtain ⟨x, hx⟩ : ∃ x, Hid (D[k] = x) := ⟨_, Lib.hid rfl⟩
        rw [hx.out] at r0 r1 hxn hxb
        have Hb1 : Hid (Below w.heap.size w (wr.alloc (.cells #[.string x.name, .slice (some ⟨g3, off3, none⟩) x.x.length x.c] 84))) := Lib.hid (Hb0.out.alloc hg0 _)
        have Hbw : Hid (Below wr.heap.size wr (wr.alloc (.cells #[.string x.name, .slice (some ⟨g3, off3, none⟩) x.x.length x.c] 84))) := Lib.hid ((Below.refl _ _).alloc (Nat.le_refl _) _)
        have t1 : wr.heap.size < (wr.alloc (.cells #[.string x.name, .slice (some ⟨g3, off3, none⟩) x.x.length x.c] 84)).heap.size := by simp
        have s0 := (Hb1.out.cell (p := ⟨g3, off3 + who.length, none⟩) (Nat.lt_of_lt_of_le hg3 hb0)).trans hs3
        have H2 : Hid (RdL (wr.alloc (.cells #[.string x.name, .slice (some ⟨g3, off3, none⟩) x.x.length x.c] 84)) (wr.alloc (.cells #[.string x.name, .slice (some ⟨g3, off3, none⟩) x.x.length x.c] 84)).heap.size A' 1 encInt who) := Lib.hid (((H'.out.rd encInt_len).below Hb1.out (Nat.le_refl _)).more Hb1.out.size)
        clear hs3 hu hxn
        by_cases c1 : hasUpTo who who.length k
        · have f1 := B_t c1
          have hno : Hid (¬ usable L who k) := Lib.hid (fun h => (Hu.out.1 h).1 c1)
          clear c1
          go_wp2_with (go_at_call 87; refine (l1Has_any who who.length (Nat.le_refl _) _ _ _ _ H2.out (by omega)).mono ?_; rintro e w' ⟨rfl, rfl⟩)
          go_roundw
          case rel => exact ⟨k + 1, B, Ab, cb, by omega, by go_num, rfl, Lib.hid (by rw [bestTo_no hno.out]; exact HB.out), HNB, (Hob.out.later Hbw.out).mono (Nat.le_refl _) (by omega), Hb1.out⟩
          case measure => simp [intOf]; omega
        · have f1 := B_f c1
          by_cases c2 : sv = 0
          · have hno : Hid (¬ usable L who k) := Lib.hid (fun h => (Hu.out.1 h).2 c2)
            subst c2
            clear c1
            go_wp2_with (go_at_call 87; refine (l1Has_any who who.length (Nat.le_refl _) _ _ _ _ H2.out (by omega)).mono ?_; rintro e w' ⟨rfl, rfl⟩)
            go_roundw
            case rel => exact ⟨k + 1, B, Ab, cb, by omega, by go_num, rfl, Lib.hid (by rw [bestTo_no hno.out]; exact HB.out), HNB, (Hob.out.later Hbw.out).mono (Nat.le_refl _) (by omega), Hb1.out⟩
            case measure => simp [intOf]; omega
          · have hyes : Hid (usable L who k) := Lib.hid (Hu.out.2 ⟨c1, c2⟩)
            clear c1
            obtain ⟨wk, hwk⟩ : ∃ wk, Hid (wk = who ++ [(k : Int)]) := ⟨_, Lib.hid rfl⟩
            have hwkl : wk.length ≤ 1048576 := by rw [hwk.out]; simp; omega
            obtain ⟨Y, hY⟩ : ∃ Y, Hid (Y = best L d wk) := ⟨_, Lib.hid rfl⟩
            have hsw : Hid (seatsP L wk) := Lib.hid (by rw [hwk.out]; exact seats_snoc HS.out (by rw [HLl.out]; exact hlt) hyes.out)
            have hYf : Hid (fullP L N Y) := Lib.hid (by rw [hY.out]; exact best_full d wk hsw.out (by rw [hwk.out]; simp; omega))
            have hBf : Hid (fullP L N B) := Lib.hid (by rw [HB.out]; exact bestTo_full (fun j hj hu => best_full d _ (seats_snoc HS.out hj hu) (by simp; omega)) k (by rw [HLl.out]; omega))
            have hIH : Hid (∀ (A3 : Option Addr) (c3 : Nat) (W : World) (b1 : Nat), b1 ≤ W.heap.size → RdP W b1 (some ⟨g, off, none⟩) L → OwnL W b1 W.heap.size A3 1 encInt wk → wk.length ≤ c3 → Calls Tryd.prog 133 #[.slice (some ⟨g, off, none⟩) D.length c, .int .i64 n, .slice A3 wk.length c3] W fun e w' => ∃ A2 c2, e = .returned (.slice A2 Y.length c2) ∧ OwnL w' b1 w'.heap.size A2 1 encInt Y ∧ NilOr A2 Y.length c2 ∧ Below W.heap.size W w') := Lib.hid (fun A3 c3 W b1 h1 h2 h3 h5 => by
              have := Hih.out wk A3 c3 W b1 h1 h2 h3 (.inl ⟨by rw [hwk.out]; simp, h5⟩) hsw.out (by rw [hwk.out]; simp; omega)
              rw [HLl.out, ← hY.out] at this; exact this)
            have hone : ∀ u ∈ [Value.int .i64 (k : Int)], u.oneCell' = true := by simp [Value.oneCell']
            have Hone := Lib.hid hone
            clear hone
            have hskY : Hid (∀ (X : List Int), fullP L N X → 0 < X.length → ∀ (AX : Option Addr) (cX : Nat) (W : World), Below w.heap.size w W → RdL W W.heap.size AX 1 encInt X → Calls Tryd.prog 51 #[.slice (some ⟨g, off, none⟩) D.length c, .slice AX X.length cX] W fun e w' => e = .returned (.int .i64 (sk L X)) ∧ W = w') := Lib.hid (fun X hf h0 AX cX W hb hr => by
              rcases hf with hf | ⟨hf1, hf2⟩
              · subst hf; simp at h0
              · have := l27Skill_any L X (some ⟨g, off, none⟩) AX c cX n W ((HRd.out.below hb hb0).more (by have := hb.size; omega)) hr (by rw [HLl.out]; omega) (by have := Hn.out; omega) HP.out (by have := Hn.out; omega) hf1
                rw [HLl.out] at this; exact this)
            rcases hYf.out with hY0 | ⟨hYs, hYl⟩
            · subst hY0
              go_wp2_with (first | (go_at_call 87; refine (l1Has_any who who.length (Nat.le_refl _) _ _ _ _ H2.out (by omega)).mono ?_; rintro e w' ⟨rfl, rfl⟩) | (go_at_call 49; refine (l1OwnG_any who A' c' _ H2.out (by omega) H0.out).mono ?_; rintro e w2 ⟨v, rfl, hgv, hbo⟩; have hbos := hbo.size) | (at_builtin; refine wpList_push rfl (.tmp 39) (.tmp 41) 42 rfl _ 3 _ 1 8 encInt rfl Int_info rfl (by omega) v who [(k : Int)] 1 rfl rfl (by simp) hgv rfl encInt_len Hone.out (by first | omega | (simp; omega)) (by omega) (by first | omega | (simp; omega)) ?_; intro v' w3 hg3 hb3 _; rw [← hwk.out] at hg3; obtain ⟨A3, c3, hv, ho3⟩ := hg3.own encInt_len; subst hv; have hb3s := hb3.size; have hwr3 : Below wr.heap.size wr w3 := (Hbw.out.trans (hbo.mono (by omega))).trans (hb3.mono (by omega)); have hw3 : Below w.heap.size w w3 := (Hb1.out.trans (hbo.mono Hb1.out.size)).trans (hb3.mono Hb1.out.size)) | (go_at_call 133; refine (hIH.out A3 c3 w3 _ (by omega) ((HRd.out.below hw3 hb0).more (by omega)) ho3 hg3.capN).mono ?_; rintro e w4 ⟨A4, c4, rfl, ho4, hno4, hb4⟩; have Hno4 := Lib.hid hno4; clear hno4; have hb4s := hb4.size) | (go_at_call 51; first | (with_reducible show Calls _ _ #[_, Value.slice A4 _ _] _ _; refine (Hs1.out A4 c4 w4 (hw3.trans (hb4.mono (by omega))) (ho4.rd encInt_len)).mono ?_; rintro e w5 ⟨rfl, rfl⟩) | (refine (Hs2.out Ab cb w4 (hw3.trans (hb4.mono (by omega))) ((Hob.out.later (hwr3.trans (hb4.mono (by omega)))).rd encInt_len)).mono ?_; rintro e w5 ⟨rfl, rfl⟩)))
              go_roundw
              case rel => exact ⟨k + 1, B, Ab, cb, by omega, by go_num, rfl, Lib.hid (by rw [bestTo_n hyes.out (by rw [← hwk.out, ← hY.out]; simp)]; exact HB.out), HNB, (Hob.out.later (hwr3.trans (hb4.mono (by omega)))).mono (Nat.le_refl _) (by omega), hw3.trans (hb4.mono (by omega))⟩
              case measure => simp [intOf]; omega
            · have hYpos : 0 < Y.length := by have := Hn.out; omega
              have HYl := Lib.hid hYl
              clear hYs hYl
              by_cases hB0 : B.length = 0
              · have hBe : B = [] := List.eq_nil_of_length_eq_zero hB0
                subst hBe
                clear hB0
                go_wp2_with (first | (go_at_call 87; refine (l1Has_any who who.length (Nat.le_refl _) _ _ _ _ H2.out (by omega)).mono ?_; rintro e w' ⟨rfl, rfl⟩) | (go_at_call 49; refine (l1OwnG_any who A' c' _ H2.out (by omega) H0.out).mono ?_; rintro e w2 ⟨v, rfl, hgv, hbo⟩; have hbos := hbo.size) | (at_builtin; refine wpList_push rfl (.tmp 39) (.tmp 41) 42 rfl _ 3 _ 1 8 encInt rfl Int_info rfl (by omega) v who [(k : Int)] 1 rfl rfl (by simp) hgv rfl encInt_len Hone.out (by first | omega | (simp; omega)) (by omega) (by first | omega | (simp; omega)) ?_; intro v' w3 hg3 hb3 _; rw [← hwk.out] at hg3; obtain ⟨A3, c3, hv, ho3⟩ := hg3.own encInt_len; subst hv; have hb3s := hb3.size; have hwr3 : Below wr.heap.size wr w3 := (Hbw.out.trans (hbo.mono (by omega))).trans (hb3.mono (by omega)); have hw3 : Below w.heap.size w w3 := (Hb1.out.trans (hbo.mono Hb1.out.size)).trans (hb3.mono Hb1.out.size)) | (go_at_call 133; refine (hIH.out A3 c3 w3 _ (by omega) ((HRd.out.below hw3 hb0).more (by omega)) ho3 hg3.capN).mono ?_; rintro e w4 ⟨A4, c4, rfl, ho4, hno4, hb4⟩; have Hno4 := Lib.hid hno4; clear hno4; have hb4s := hb4.size) | (go_at_call 51; first | (with_reducible show Calls _ _ #[_, Value.slice A4 _ _] _ _; refine (Hs1.out A4 c4 w4 (hw3.trans (hb4.mono (by omega))) (ho4.rd encInt_len)).mono ?_; rintro e w5 ⟨rfl, rfl⟩) | (refine (Hs2.out Ab cb w4 (hw3.trans (hb4.mono (by omega))) ((Hob.out.later (hwr3.trans (hb4.mono (by omega)))).rd encInt_len)).mono ?_; rintro e w5 ⟨rfl, rfl⟩)))
                go_roundw
                case rel => exact ⟨k + 1, Y, A4, c4, by omega, by go_num, rfl, Lib.hid (by rw [bestTo_y hyes.out (by rw [← hwk.out, ← hY.out]; exact hYpos) (.inl (by rw [← HB.out]; rfl)), ← hwk.out]; exact hY.out), Hno4, ho4.mono (by omega) (Nat.le_refl _), hw3.trans (hb4.mono (by omega))⟩
                case measure => simp [intOf]; omega
              · have hBpos : 0 < B.length := by omega
                obtain ⟨SY, hSY⟩ : ∃ s, Hid (sk L Y = s) := ⟨_, Lib.hid rfl⟩
                obtain ⟨SB, hSB⟩ : ∃ s, Hid (sk L B = s) := ⟨_, Lib.hid rfl⟩
                have hs1 := hskY.out Y hYf.out hYpos
                have hs2 := hskY.out B hBf.out hBpos
                rw [hSY.out] at hs1
                rw [hSB.out] at hs2
                have Hs1 := Lib.hid hs1
                have Hs2 := Lib.hid hs2
                clear hs1 hs2
                by_cases hc : SB < SY
                · go_wp2_with (first | (go_at_call 87; refine (l1Has_any who who.length (Nat.le_refl _) _ _ _ _ H2.out (by omega)).mono ?_; rintro e w' ⟨rfl, rfl⟩) | (go_at_call 49; refine (l1OwnG_any who A' c' _ H2.out (by omega) H0.out).mono ?_; rintro e w2 ⟨v, rfl, hgv, hbo⟩; have hbos := hbo.size) | (at_builtin; refine wpList_push rfl (.tmp 39) (.tmp 41) 42 rfl _ 3 _ 1 8 encInt rfl Int_info rfl (by omega) v who [(k : Int)] 1 rfl rfl (by simp) hgv rfl encInt_len Hone.out (by first | omega | (simp; omega)) (by omega) (by first | omega | (simp; omega)) ?_; intro v' w3 hg3 hb3 _; rw [← hwk.out] at hg3; obtain ⟨A3, c3, hv, ho3⟩ := hg3.own encInt_len; subst hv; have hb3s := hb3.size; have hwr3 : Below wr.heap.size wr w3 := (Hbw.out.trans (hbo.mono (by omega))).trans (hb3.mono (by omega)); have hw3 : Below w.heap.size w w3 := (Hb1.out.trans (hbo.mono Hb1.out.size)).trans (hb3.mono Hb1.out.size)) | (go_at_call 133; refine (hIH.out A3 c3 w3 _ (by omega) ((HRd.out.below hw3 hb0).more (by omega)) ho3 hg3.capN).mono ?_; rintro e w4 ⟨A4, c4, rfl, ho4, hno4, hb4⟩; have Hno4 := Lib.hid hno4; clear hno4; have hb4s := hb4.size) | (go_at_call 51; first | (with_reducible show Calls _ _ #[_, Value.slice A4 _ _] _ _; refine (Hs1.out A4 c4 w4 (hw3.trans (hb4.mono (by omega))) (ho4.rd encInt_len)).mono ?_; rintro e w5 ⟨rfl, rfl⟩) | (refine (Hs2.out Ab cb w4 (hw3.trans (hb4.mono (by omega))) ((Hob.out.later (hwr3.trans (hb4.mono (by omega)))).rd encInt_len)).mono ?_; rintro e w5 ⟨rfl, rfl⟩)))
                  go_roundw
                  case rel => exact ⟨k + 1, Y, A4, c4, by omega, by go_num, rfl, Lib.hid (by rw [bestTo_y hyes.out (by rw [← hwk.out, ← hY.out]; exact hYpos) (.inr (by rw [← HB.out, ← hwk.out, ← hY.out, hSY.out, hSB.out]; exact hc)), ← hwk.out]; exact hY.out), Hno4, ho4.mono (by omega) (Nat.le_refl _), hw3.trans (hb4.mono (by omega))⟩
                  case measure => simp [intOf]; omega
                · have Hc := Lib.hid hc
                  have hd : decide (SB < SY) = false := decide_eq_false hc
                  clear hc
                  go_wp2_with (first | (go_at_call 87; refine (l1Has_any who who.length (Nat.le_refl _) _ _ _ _ H2.out (by omega)).mono ?_; rintro e w' ⟨rfl, rfl⟩) | (go_at_call 49; refine (l1OwnG_any who A' c' _ H2.out (by omega) H0.out).mono ?_; rintro e w2 ⟨v, rfl, hgv, hbo⟩; have hbos := hbo.size) | (at_builtin; refine wpList_push rfl (.tmp 39) (.tmp 41) 42 rfl _ 3 _ 1 8 encInt rfl Int_info rfl (by omega) v who [(k : Int)] 1 rfl rfl (by simp) hgv rfl encInt_len Hone.out (by first | omega | (simp; omega)) (by omega) (by first | omega | (simp; omega)) ?_; intro v' w3 hg3 hb3 _; rw [← hwk.out] at hg3; obtain ⟨A3, c3, hv, ho3⟩ := hg3.own encInt_len; subst hv; have hb3s := hb3.size; have hwr3 : Below wr.heap.size wr w3 := (Hbw.out.trans (hbo.mono (by omega))).trans (hb3.mono (by omega)); have hw3 : Below w.heap.size w w3 := (Hb1.out.trans (hbo.mono Hb1.out.size)).trans (hb3.mono Hb1.out.size)) | (go_at_call 133; refine (hIH.out A3 c3 w3 _ (by omega) ((HRd.out.below hw3 hb0).more (by omega)) ho3 hg3.capN).mono ?_; rintro e w4 ⟨A4, c4, rfl, ho4, hno4, hb4⟩; have Hno4 := Lib.hid hno4; clear hno4; have hb4s := hb4.size) | (go_at_call 51; first | (with_reducible show Calls _ _ #[_, Value.slice A4 _ _] _ _; refine (Hs1.out A4 c4 w4 (hw3.trans (hb4.mono (by omega))) (ho4.rd encInt_len)).mono ?_; rintro e w5 ⟨rfl, rfl⟩) | (refine (Hs2.out Ab cb w4 (hw3.trans (hb4.mono (by omega))) ((Hob.out.later (hwr3.trans (hb4.mono (by omega)))).rd encInt_len)).mono ?_; rintro e w5 ⟨rfl, rfl⟩)))
                  go_roundw
                  case rel => exact ⟨k + 1, B, Ab, cb, by omega, by go_num, rfl, Lib.hid (by rw [bestTo_n hyes.out (by rw [← HB.out, ← hwk.out, ← hY.out, hSY.out, hSB.out]; rintro ⟨_, h | h⟩; exact hB0 h; have := Hc.out; omega)]; exact HB.out), HNB, (Hob.out.later (hwr3.trans (hb4.mono (by omega)))).mono (Nat.le_refl _) (by omega), hw3.trans (hb4.mono (by omega))⟩
                  case measure => simp [intOf]; omega
      · obtain rfl : k = D.length := by omega
        go_wp2
        go_ret
        refine ⟨Ab, cb, ?_, ?_, ?_, Hb0.out⟩
        · rw [HB.out, best, HLl.out]; rfl
        · have := Hob.out; rw [HB.out] at this; rw [best, HLl.out]; exact this
        · have := HNB.out; rw [HB.out] at this; rw [best, HLl.out]; exact this
end Go.Proofs.YtbfhfnejppfehaaDoor
