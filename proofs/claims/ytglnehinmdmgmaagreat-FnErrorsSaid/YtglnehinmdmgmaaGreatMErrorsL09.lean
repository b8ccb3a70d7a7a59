import Derived.Test.YtglnehinmdmgmaaGreatMErrorsL08
import Derived.Test.YtglnehinmdmgmaaGreatMErrorsL03
import Derived.Test.YtglnehinmdmgmaaGreatMErrorsL07
import Derived.Laws.OwnMore
import Derived.Test.YtglnehinmdmgmaaGreatMErrorsL00
import Derived.Deep.RegionLaw
/-
  All changes of a stage and a drawn one, as the reference makes them.
-/
namespace Go.Proofs.YtglnehinmdmgmaaGreat
open Go.RowKit
set_option linter.unusedVariables false
set_option linter.unusedSimpArgs false
set_option maxRecDepth 100000

theorem flat_set1 {α : Type} {enc : α → List Value} (henc : ∀ x, (enc x).length = 1) {x : α} {u : Value} (hx : enc x = [u]) : ∀ (l : List α) (k : Nat), flat enc (l.set k x) = (flat enc l).set k u
  | [], k => by simp [flat]
  | y :: l, 0 => by
    obtain ⟨v, hv⟩ : ∃ v, enc y = [v] := List.length_eq_one_iff.1 (henc y)
    simp [flat, hx, hv]
  | y :: l, k + 1 => by
    obtain ⟨v, hv⟩ : ∃ v, enc y = [v] := List.length_eq_one_iff.1 (henc y)
    have := flat_set1 henc hx l k
    simp [flat, hv, this]
/-- A store into a slice of the call's own, an element one cell. -/
theorem Grow.stored {α : Type} {enc : α → List Value} {w : World} {base g n cap : Nat} {e : TypeId} {l : List α} (h : Grow w base e 1 enc (.slice (some ⟨g, 0, none⟩) n cap) l) (hn : n = l.length) (henc : ∀ x, (enc x).length = 1) {x : α} {u : Value} (hx : enc x = [u]) (k : Nat) :
    Grow (w.setCell ⟨g, k, none⟩ u) base e 1 enc (.slice (some ⟨g, 0, none⟩) n cap) (l.set k x) := by
  subst hn
  unfold Grow at h ⊢
  rw [List.length_set, flat_set1 henc hx]
  exact (h.stored k u).1
theorem Grow.cellS {w : World} {base g n cap : Nat} {e : TypeId} {l : List ByteArray} (h : Grow w base e 1 encString (.slice (some ⟨g, 0, none⟩) n cap) l) (k : Nat) (hk : k < l.length) : w.cell? ⟨g, k, none⟩ = some (.string l[k]) ∧ w.frozen? ⟨g, k, none⟩ = false := by
  obtain ⟨A, c, e1, e2⟩ := h.own encString_len
  injection e1 with e1 _ _
  subst e1
  exact e2.cellStr k hk
theorem Grow.some_ {α : Type} {enc : α → List Value} {w : World} {base : Nat} {e : TypeId} {size : Nat} {v : Value} {l : List α} (h : Grow w base e size enc v l) (hl : 0 < l.length) : ∃ g cap, v = .slice (some ⟨g, 0, none⟩) l.length cap ∧ base ≤ g ∧ g < w.heap.size ∧ l.length ≤ cap := by
  rcases h.2 with ⟨_, h2⟩ | ⟨g, cap, cur, h1, h2, h3, h4, _⟩
  · omega
  · exact ⟨g, cap, h1, h2, h.block_lt g (by rw [h1]; rfl), h4⟩
theorem plcT_snoc (l : List Int) (p : Int) : plcT (l ++ [p]) = plcT l ++ mkS [48 + p] := by
  unfold plcT; rw [List.map_append, mkS_app]; rfl
theorem l1NumD_any (p : Int) (w : World) (h0 : 0 ≤ p) (h9 : p ≤ 9) : Calls Tryz.prog 85 #[.int .i64 p] w fun e w' => e = .returned (.string (mkS [48 + p])) ∧ Below w.heap.size w w' := by
  have d1 : decide (p < 10) = true := by simp; omega
  have a3 : IntKind.i64.wrap (48 + p) = 48 + p := IntWalk.i64_in _ (by omega)
  have a4 : IntKind.u8.wrap (48 + p) = 48 + p := IntWalk.u8_in _ (by omega)
  go_enter Tryz.func85, Tryz.ntmps85
  go_wp2
  go_ret
  exact ⟨rfl, (Below.refl _ _).alloc (Nat.le_refl _) _⟩
set_option maxHeartbeats 1600000 in
theorem l2Of_any (l : List Int) (A : Option Addr) (c : Nat) (w : World) (h : RdL w w.heap.size A 1 encInt l) (hl : l.length ≤ 8) (hp : ∀ x ∈ l, 0 ≤ x ∧ x ≤ 9) :
    Calls Tryz.prog 110 #[.slice A l.length c] w fun e w' => e = .returned (.string (ofR l)) ∧ Below w.heap.size w w' := by
  by_cases h0 : l.length = 0
  · obtain rfl := List.eq_nil_of_length_eq_zero h0
    clear h h0 hl hp
    go_enter Tryz.func110, Tryz.ntmps110
    go_wp2
    go_loopw [3, 8] (fun v i wr => v = .string ⟨#[]⟩ ∧ i = .int .i64 0 ∧ w = wr) (fun _ _ _ => 0)
    case atStart => exact ⟨rfl, rfl, rfl⟩
    case round =>
      obtain ⟨rfl, rfl, rfl⟩ := hrel
      go_wp2
      go_ret
      exact ⟨ret_str (by rw [ofR_nil]; rfl), Below.refl _ _⟩
  · obtain ⟨g, off, hA, hg, _⟩ := h.at (k := 0) (by omega)
    subst hA
    have H := Lib.hid h
    have Hp := Lib.hid hp
    have hlast : Hid (ofR l = plcT l ∧ plcT l ≠ ⟨#[]⟩ ∧ (plcT l).toList.isEmpty = false ∧ ¬ (plcT l).toList = []) := Lib.hid (by
      have hs : 0 < (plcT l).size := by rw [plcT_size]; omega
      exact ⟨ofR_some (fun e => h0 (by rw [e]; rfl)), fun e => by rw [e] at hs; exact absurd hs (by decide), toList_isEmpty hs, toList_ne hs⟩)
    clear h hp
    go_enter Tryz.func110, Tryz.ntmps110
    go_wp2
    go_loopw [3, 8] (fun v i wr => ∃ (k : Nat) (S : ByteArray), k ≤ l.length ∧ i = .int .i64 (k : Int) ∧ v = .string S ∧ Hid (S = plcT (l.take k)) ∧ S.size = k ∧ Below w.heap.size w wr) (fun _ i _ => l.length - (intOf i).toNat)
    case atStart => exact ⟨0, ⟨#[]⟩, by omega, by rfl, rfl, Lib.hid (by simp [plcT, mkS]), by rfl, Below.refl _ _⟩
    case round =>
      obtain ⟨k, S, hk, rfl, rfl, hS, hsz, hbl⟩ := hrel
      have HB := Lib.hid hbl
      clear hbl
      by_cases hlt : k < l.length
      · obtain ⟨g', off', hA', _, hcell⟩ := H.out.at hlt
        simp only [Option.some.injEq, Addr.mk.injEq, and_true] at hA'
        obtain ⟨rfl, rfl⟩ := hA'
        have hc0 := (HB.out.cell (p := ⟨g, off + (k * 1 + 0), none⟩) hg).trans (hcell 0 _ rfl)
        rw [Nat.mul_one, Nat.add_zero] at hc0
        have hx := Hp.out l[k] (List.getElem_mem hlt)
        have hT : Hid (plcT (l.take (k + 1)) = plcT (l.take k) ++ mkS [48 + l[k]]) := Lib.hid (by rw [List.take_succ_eq_append_getElem hlt, plcT_snoc])
        obtain ⟨x, hxe⟩ : ∃ x, Hid (l[k] = x) := ⟨_, Lib.hid rfl⟩
        rw [hxe.out] at hc0 hx hT
        clear hcell
        obtain ⟨NU, hNU⟩ : ∃ N, Hid (mkS [48 + x] = N) := ⟨_, Lib.hid rfl⟩
        have hn1 : NU.size = 1 := by rw [← hNU.out, size_mkS]; rfl
        have Hnum : Hid (∀ W, Calls Tryz.prog 85 #[.int .i64 x] W fun e w' => e = .returned (.string NU) ∧ Below W.heap.size W w') := Lib.hid fun W => by
          have := l1NumD_any x W hx.1 hx.2; rw [hNU.out] at this; exact this
        have k1 : ¬ 9223372036854775807 < S.size + NU.size := by omega
        go_wp2_with (go_at_call 85; refine (Hnum.out _).mono ?_; rintro e w5 ⟨rfl, hb5⟩; have HB5 := Lib.hid (HB.out.trans (hb5.mono HB.out.size)); clear hb5)
        go_roundw
        case rel => exact ⟨k + 1, S ++ NU, by omega, by go_num, rfl, Lib.hid (by rw [hT.out, ← hS.out, hNU.out]), by rw [ByteArray.size_append]; omega, HB5.out⟩
        case measure => simp [intOf]; omega
      · obtain rfl : k = l.length := by omega
        have hSe : S = plcT l := by rw [hS.out, List.take_length]
        subst hSe
        obtain ⟨q1, q2, q3, q4⟩ := hlast.out
        have Q1 := Lib.hid q1
        clear q1 hlast hS
        obtain ⟨T, hT⟩ : ∃ T, Hid (plcT l = T) := ⟨_, Lib.hid rfl⟩
        rw [hT.out] at q2 q3 q4 ⊢
        go_wp2
        go_ret
        exact ⟨ret_str (by rw [Q1.out, hT.out]), HB.out⟩

set_option maxHeartbeats 3200000 in
theorem l2All_any (n : Nat) (w : World) (h3 : 3 ≤ n) (h8 : n ≤ 8) :
    Calls Tryz.prog 102 #[.int .i64 (n : Int)] w fun e w' => ∃ (A : Option Addr) (c : Nat) (S : List ByteArray), e = .returned (.slice A S.length c) ∧ 0 < S.length ∧ S.length ≤ 256 ∧ (∀ s ∈ S, changeP (n : Int) s) ∧ OwnL w' w.heap.size w'.heap.size A 1 encString S ∧ Below w.heap.size w w' := by
  have hlen := Nat.le_trans (fromR_len n n) (Nat.pow_le_pow_right (show 0 < 2 by omega) h8)
  have hpos := fromR_pos n n
  have hin := Lib.hid (fromR_in n n (Nat.le_refl _))
  have hla := Lib.hid (fromR_last n n)
  have hch := Lib.hid (last_change h3 h8)
  obtain ⟨L, hL⟩ : ∃ L, Hid (fromR n n = L) := ⟨_, Lib.hid rfl⟩
  obtain ⟨R0, hR0⟩ : ∃ R0, Hid (lastR n n = R0) := ⟨_, Lib.hid rfl⟩
  have HF : Hid (∀ W, Calls Tryz.prog 109 #[.int .i64 (n : Int), .int .i64 1] W fun e w' => FromR L W e w') := Lib.hid fun W => by
    have := l2From_any n h8 n 1 W (by omega) (by omega)
    rw [hL.out] at this; exact this
  rw [hL.out] at hlen hpos hin hla
  rw [hR0.out] at hla hch
  clear hL hR0
  go_enter Tryz.func102, Tryz.ntmps102
  go_upto_region 3 with (go_at_call 109; refine (HF.out _).mono ?_; rintro e w1 ⟨A1, c1, D1, rfl, hD1, hr1, hi1, hb1⟩; have HR1 := Lib.hid hr1; have HI1 := Lib.hid hi1; have HB1 := Lib.hid hb1; have HD1 := Lib.hid hD1; have HL1 : Hid (D1.length = L.length) := Lib.hid (by have := congrArg List.length hD1; simpa using this); clear hr1 hi1 hb1 hD1)
  have hz1 := HB1.out.size
  have hD256 : D1.length ≤ 256 := by have := HL1.out; omega
  have hD0 : 0 < D1.length := by have := HL1.out; omega
  obtain ⟨g1, off1, hA1, hg1, _⟩ := HR1.out.at hD0
  subst hA1
  clear hlen hpos
  go_loopw [3, 11] (fun v i wr => ∃ (j : Nat) (S : List ByteArray), j ≤ D1.length ∧ i = .int .i64 (j : Int) ∧ S.length ≤ j ∧ Hid (∀ s ∈ S, changeP (n : Int) s) ∧ Hid (∀ (i : Nat) (hi : i < D1.length), i < j → D1[i].x = R0 → 0 < S.length) ∧ Grow wr w1.heap.size 9 1 encString v S ∧ Below w1.heap.size w1 wr) (fun _ i _ => D1.length - (intOf i).toNat)
  case atStart => exact ⟨0, [], by omega, by rfl, by simp, Lib.hid (by simp), Lib.hid (by intro i hi h; omega), Grow.nil, Below.refl _ _⟩
  case round =>
    obtain ⟨j, S, hj, rfl, hSj, hSc, hSr, hg, hbl⟩ := hrel
    have HG := Lib.hid hg
    have HB := Lib.hid hbl
    have hzr := hbl.size
    have hS256 : S.length ≤ 256 := by omega
    clear hg hbl
    by_cases hlt : j < D1.length
    · obtain ⟨g', off', hA', _, hcell⟩ := HR1.out.at hlt
      simp only [Option.some.injEq, Addr.mk.injEq, and_true] at hA'
      obtain ⟨rfl, rfl⟩ := hA'
      have hc0 := (HB.out.cell (p := ⟨g1, off1 + (j * 1 + 0), none⟩) hg1).trans (hcell 0 _ rfl)
      rw [Nat.mul_one, Nat.add_zero] at hc0
      have hrd := Lib.hid ((((HI1.out D1[j] (List.getElem_mem hlt)).1).below HB.out (Nat.le_refl _)).more hzr)
      have hdin := Lib.hid (hin.out (D1[j]).x (by rw [← HD1.out]; exact List.mem_map_of_mem (List.getElem_mem hlt)))
      have hdr : Hid ((D1[j]).x = R0 → changeP (n : Int) (ofR (D1[j]).x)) := Lib.hid (fun e => by rw [e]; exact hch.out)
      obtain ⟨d, hd⟩ : ∃ d, Hid (D1[j] = d) := ⟨_, Lib.hid rfl⟩
      rw [hd.out] at hc0 hrd hdin hdr
      obtain ⟨x, A, c⟩ := d
      simp only at hc0 hrd hdin hdr
      clear hcell
      have hOf : Hid (∀ W, Below wr.heap.size wr W → Calls Tryz.prog 110 #[.slice A x.length c] W fun e w' => e = .returned (.string (ofR x)) ∧ Below W.heap.size W w') := Lib.hid fun W hb => l2Of_any x A c W ((hrd.out.below hb (Nat.le_refl _)).more hb.size) (by have := hdin.out.1; omega) (fun p hp => by have := hdin.out.2 p hp; omega)
      have hsz : (ofR x).size ≤ 8 := by
        unfold ofR
        split
        · decide
        · rw [plcT_size]; have := hdin.out.1; omega
      obtain ⟨s, hs⟩ : ∃ s, Hid (ofR x = s) := ⟨_, Lib.hid rfl⟩
      rw [hs.out] at hOf hdr hsz
      by_cases hc : changeP (n : Int) s
      · have e1 := B_t hc
        have HC := Lib.hid hc
        clear hc
        obtain ⟨A3, c3, e3, _⟩ := HG.out.own encString_len
        subst e3
        go_wp2_with (first
          | (go_at_call 110; refine (hOf.out _ (Below.refl _ _)).mono ?_; rintro e w2 ⟨rfl, hb2⟩; have HB2 := Lib.hid hb2; have hz2 := hb2.size; have HG2 := Lib.hid (HG.out.later hb2); clear hb2)
          | (go_at_call 111; refine (l2Change_any (n : Int) s _ (by omega)).mono ?_; rintro e w' ⟨rfl, rfl⟩)
          | (at_builtin; refine wpList_pushA rfl (.tmp 23) (.tmp 25) 25 rfl w1.heap.size 9 _ 1 16 encString rfl String_info rfl (by omega) _ S [s] 1 rfl rfl (by simp) HG2.out rfl encString_len (by simp [Value.oneCell']) (by simp only [List.length_singleton]; omega) (by omega) (by omega) ?_; intro v6 w6 g6 b6 gb6 k6; have HG6 := Lib.hid g6; have HB6 := Lib.hid b6; clear g6 b6 gb6 k6))
        obtain ⟨g6, cap6, e6, hgb6, hgl6, hcap6⟩ := HG6.out.some_ (by simp)
        subst e6
        obtain ⟨N, hN⟩ : ∃ N, Hid ((S ++ [s]).length = N) := ⟨_, Lib.hid rfl⟩
        have hNS : N = S.length + 1 := by rw [← hN.out]; simp
        have hMS : Hid (∀ q ∈ S ++ [s], changeP (n : Int) q) := Lib.hid (fun q hq => by
          rcases List.mem_append.1 hq with hq | hq
          · exact hSc.out q hq
          · rw [List.mem_singleton.1 hq]; exact HC.out)
        rw [hN.out] at HG6 hcap6 ⊢
        have HB6w := Lib.hid (HB.out.trans ((HB2.out.mono hzr).trans HB6.out))
        obtain ⟨wo, rfl⟩ : ∃ wo, wo = wr := ⟨wr, rfl⟩
        go_loopw [7] (fun i wi => ∃ (k : Nat) (M : List ByteArray), i = .int .i64 (k : Int) ∧ k ≤ S.length ∧ M.length = N ∧ Hid (∀ q ∈ M, changeP (n : Int) q) ∧ Grow wi w1.heap.size 9 1 encString (.slice (some ⟨g6, 0, none⟩) N cap6) M ∧ Below w1.heap.size w1 wi) (fun i _ => (intOf i).toNat)
        case atStart => exact ⟨S.length, S ++ [s], by rfl, Nat.le_refl _, hN.out, hMS, HG6.out, HB6w.out⟩
        case round =>
          obtain ⟨k, M, rfl, hkS, hMl, hMc, hgM, hbM⟩ := hrel
          have HGM := Lib.hid hgM
          have HBM := Lib.hid hbM
          clear hgM hbM
          have HMl := Lib.hid hMl
          by_cases hk0 : 0 < k
          · obtain ⟨m, rfl⟩ : ∃ m, k = m + 1 := ⟨k - 1, by omega⟩
            have hm1 : m < M.length := by omega
            have hm2 : m + 1 < M.length := by omega
            obtain ⟨q0, f0⟩ := HGM.out.cellS m hm1
            obtain ⟨q1, f1⟩ := HGM.out.cellS (m + 1) hm2
            have hG' := Lib.hid (HGM.out.stored (by omega) encString_len (x := M[m]) (u := .string M[m]) rfl (m + 1))
            have hM' : Hid (∀ q ∈ M.set (m + 1) M[m], changeP (n : Int) q) := Lib.hid (fun q hq => by
              rcases List.mem_or_eq_of_mem_set hq with hq | rfl
              · exact hMc.out q hq
              · exact hMc.out _ (List.getElem_mem hm1))
            have hL' : Hid ((M.set (m + 1) M[m]).length = N) := Lib.hid (by simp; omega)
            have hBc : Hid (Below w1.heap.size wr (wr.setCell ⟨g6, m + 1, none⟩ (.string M[m]))) := Lib.hid ((Below.refl _ _).setCell (p := ⟨g6, m + 1, none⟩) hgb6 _)
            have HSg := Lib.hid (HGM.out.stored (by omega) encString_len (x := s) (u := .string s) rfl (m + 1))
            have HSl : Hid ((M.set (m + 1) s).length ≤ j + 1) := Lib.hid (by rw [List.length_set]; omega)
            have HSn : Hid (∀ (i : Nat) (hi : i < D1.length), i < j + 1 → D1[i].x = R0 → 0 < (M.set (m + 1) s).length) := Lib.hid (fun i hi _ _ => by rw [List.length_set]; omega)
            have HSs : Hid (∀ q ∈ M.set (m + 1) s, changeP (n : Int) q) := Lib.hid (fun q hq => by
              rcases List.mem_or_eq_of_mem_set hq with hq | rfl
              · exact hMc.out q hq
              · exact HC.out)
            have HSb : Hid (Below w1.heap.size w1 (wr.setCell ⟨g6, m + 1, none⟩ (.string s))) := Lib.hid (HBM.out.trans ((Below.refl _ _).setCell (p := ⟨g6, m + 1, none⟩) hgb6 _))
            generalize M.set (m + 1) s = M3 at HSg HSl HSs HSn
            generalize M.set (m + 1) M[m] = M2 at *
            generalize M[m] = x0 at *
            generalize M[m + 1] = x1 at *
            clear hMl
            go_wp2
            · exact ⟨⟨m, M2, by go_num, by omega, hL'.out, hM', hG'.out, HBM.out.trans hBc.out⟩, by simp [intOf]⟩
            · exact ⟨⟨j + 1, _, by omega, by go_num, HSl.out, HSs, HSn, HSg.out, HSb.out⟩, by simp [intOf]; omega⟩
          · obtain rfl : k = 0 := by omega
            obtain ⟨q1, f1⟩ := HGM.out.cellS 0 (by omega)
            have HSg := Lib.hid (HGM.out.stored (by omega) encString_len (x := s) (u := .string s) rfl (0))
            have HSl : Hid ((M.set (0) s).length ≤ j + 1) := Lib.hid (by rw [List.length_set]; omega)
            have HSn : Hid (∀ (i : Nat) (hi : i < D1.length), i < j + 1 → D1[i].x = R0 → 0 < (M.set (0) s).length) := Lib.hid (fun i hi _ _ => by rw [List.length_set]; omega)
            have HSs : Hid (∀ q ∈ M.set (0) s, changeP (n : Int) q) := Lib.hid (fun q hq => by
              rcases List.mem_or_eq_of_mem_set hq with hq | rfl
              · exact hMc.out q hq
              · exact HC.out)
            have HSb : Hid (Below w1.heap.size w1 (wr.setCell ⟨g6, 0, none⟩ (.string s))) := Lib.hid (HBM.out.trans ((Below.refl _ _).setCell (p := ⟨g6, 0, none⟩) hgb6 _))
            generalize M.set (0) s = M3 at HSg HSl HSs HSn
            generalize M[0] = x1 at *
            clear hMl
            go_wp2
            go_roundw
            case rel => exact ⟨j + 1, _, by omega, by go_num, HSl.out, HSs, HSn, HSg.out, HSb.out⟩
            case measure => simp [intOf]; omega
      · have e1 := B_f hc
        have HC := Lib.hid hc
        clear hc
        go_wp2_with (first
          | (go_at_call 110; refine (hOf.out _ (Below.refl _ _)).mono ?_; rintro e w2 ⟨rfl, hb2⟩; have HB2 := Lib.hid hb2; have hz2 := hb2.size; have HG2 := Lib.hid (HG.out.later hb2); clear hb2)
          | (go_at_call 111; refine (l2Change_any (n : Int) s _ (by omega)).mono ?_; rintro e w' ⟨rfl, rfl⟩))
        go_roundw
        case rel => exact ⟨j + 1, S, by omega, by go_num, by omega, hSc, Lib.hid (fun i hi h e => by
          rcases Nat.lt_or_ge i j with h' | h'
          · exact hSr.out i hi h' e
          · obtain rfl : i = j := by omega
            rw [hd.out] at e
            exact absurd (hdr.out e) HC.out), HG2.out, HB.out.trans (HB2.out.mono hzr)⟩
        case measure => simp [intOf]; omega
    · obtain rfl : j = D1.length := by omega
      obtain ⟨A, c, rfl, ho⟩ := HG.out.own encString_len
      have Ho := Lib.hid ho
      have hS0 : 0 < S.length := by
        have := hla.out
        rw [← HD1.out] at this
        obtain ⟨d, hd, e⟩ := List.mem_map.1 this
        obtain ⟨i, hi, e2⟩ := List.getElem_of_mem hd
        exact hSr.out i hi hi (by rw [e2, e])
      clear ho
      go_wp2
      go_ret
      exact ⟨A, c, S, rfl, hS0, hS256, hSc.out, Ho.out.mono hz1 (Nat.le_refl _), HB1.out.trans (HB.out.mono hz1)⟩
set_option maxHeartbeats 1600000 in
theorem change_any (g K n : Nat) (w : World) (h : Cur w g K) (hK : K ≤ 100000000) (h3 : 3 ≤ n) (h8 : n ≤ 8) :
    Calls Tryz.prog 87 #[.pointer (some ⟨g, 0, none⟩), .int .i64 (n : Int)] w fun e w' => ∃ s, e = .returned (.string s) ∧ changeP (n : Int) s ∧ Cur w' g (K + 2) ∧ Turn g w w' := by
  have H := Lib.hid h
  have hgw := h.lt
  clear h
  go_enter Tryz.func87, Tryz.ntmps87
  go_upto_region 2 with (go_at_call 102; refine (l2All_any n _ h3 h8).mono ?_; rintro e w1 ⟨A, c, S, rfl, hS0, hS256, hSc, ho, hb⟩; have HO := Lib.hid ho; have HB := Lib.hid hb; have HS := Lib.hid hSc; clear ho hb hSc)
  have hz := HB.out.size
  obtain ⟨q, hA, hq1, hq2, hq3⟩ := HO.out.someStr hS0
  subst hA
  have HC := Lib.hid (H.out.later HB.out)
  go_wp2_with (go_at_call 48; refine (pick_any g K (S.length : Int) _ HC.out (by omega) (by omega)).mono ?_; rintro e w2 ⟨x, rfl, hx0, hx1, hc, ht⟩; have HC2 := Lib.hid hc; have HT2 := Lib.hid ht; clear hc ht; obtain ⟨k, rfl⟩ : ∃ k : Nat, x = (k : Int) := ⟨x.toNat, by omega⟩; have hk : k < S.length := (by omega); have hcell := (HT2.out.cell (p := ⟨q, k, none⟩) hq3 (show q ≠ g by omega)).trans (HO.out.cellStr k hk).1; have Hs := Lib.hid (HS.out _ (List.getElem_mem hk)); generalize S[k] = s at *)
  go_ret
  exact ⟨s, rfl, Hs.out, HC2.out, (Turn.of HB.out).trans HT2.out⟩
end Go.Proofs.YtglnehinmdmgmaaGreat

/-
  Words of our own that know no program: a call inside a region that draws.
-/
namespace Go.Proofs.YtglnehinmdmgmaaGreat
open Go.RowKit
set_option linter.unusedVariables false
set_option linter.unusedSimpArgs false

section
variable {P : Program} {ops : Array Oper} {o : Oper} {a : Act} {K : Act → World → Prop} {Q : Exit → Act → World → Prop} {w : World} {E : Prop}
/-- A call inside a region that draws, by a contract that names its result only so far. -/
theorem step_callsX (hg : o.guard = none) (f : FuncId) {xs : Array Operand} {ts : Array TypeId} (ho : o.op = .call { callee := .value (.func f), args := xs, argTypes := ts }) (vals : Array Value) {R : Value → World → Prop} (henter : (execOp a.eval o).run P w = .ok (.enter f vals) w)
    (h : Calls P f vals w fun e w' => ∃ v, e = .returned v ∧ R v w') (hK : ∀ v w', R v w' → K (a.put o.dst v) w') : if Region.wanted o (yielded ops a.tmps) = true then Oper.wp P o a w K Q else E := by
  rw [if_pos (by simp [Region.wanted, hg])]
  unfold Oper.wp
  rw [henter, Oper.upon_enter]
  exact h.mono fun e w' ⟨v, he, hr⟩ => by subst he; exact hK v w' hr
end
end Go.Proofs.YtglnehinmdmgmaaGreat
