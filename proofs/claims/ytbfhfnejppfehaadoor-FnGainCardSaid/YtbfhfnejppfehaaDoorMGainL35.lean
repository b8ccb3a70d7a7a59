import Derived.Test.YtbfhfnejppfehaaDoorMGainL34
import Derived.Test.YtbfhfnejppfehaaDoorMGainL02
/-
  ReadPlacing: walks of both sides.
-/
namespace Go.Proofs.YtbfhfnejppfehaaDoor
open Go.RowKit
set_option linter.unusedVariables false
set_option linter.unusedSimpArgs false
set_option maxRecDepth 100000

def RpPost (l : List Pk) (n : Int) (s : ByteArray) (w : World) (e : Ending) (w' : World) : Prop :=
  ((∃ who A c, TxtP l n who s ∧ e = .returned (.tuple #[.slice A who.length c, .bool true]) ∧ who.length ≤ c ∧ OwnL w' w.heap.size w'.heap.size A 1 encInt who) ∨ ((∀ who, ¬ TxtP l n who s) ∧ e = .returned (.tuple #[.slice none 0 0, .bool false]))) ∧ Below w.heap.size w w'
theorem rpNo {l : List Pk} {n : Int} {s : ByteArray} {w w' : World} {e : Ending} (h : ∀ who, ¬ TxtP l n who s) (he : e = .returned (.tuple #[.slice none 0 0, .bool false])) (hb : Below w.heap.size w w') : RpPost l n s w e w' := ⟨.inr ⟨h, he⟩, hb⟩
theorem rpYes {l : List Pk} {n : Int} {s : ByteArray} {w w' : World} {e : Ending} {who : List Int} {A : Option Addr} {c : Nat} (h : TxtP l n who s) (he : e = .returned (.tuple #[.slice A who.length c, .bool true])) (hc : who.length ≤ c) (ho : OwnL w' w.heap.size w'.heap.size A 1 encInt who) (hb : Below w.heap.size w w') : RpPost l n s w e w' := ⟨.inl ⟨who, A, c, h, he, hc, ho⟩, hb⟩
/-- The place of a name, as far as it is known. -/
def IdxN (D : List Psn) (s : ByteArray) (r : Int) : Prop := (∃ (i : Nat) (h : i < D.length), r = (i : Int) ∧ D[i].name = s) ∨ (r = -1 ∧ ∀ (i : Nat) (h : i < D.length), D[i].name ≠ s)
theorem IdxN.wd {D : List Psn} {y : ByteArray} {r : Int} (h : IdxN D (nmI y) r) : WdI (D.map Psn.key) y r := by
  rcases h with ⟨i, h1, h2, h3⟩ | ⟨h1, h2⟩
  · exact .inl ⟨i, h2, by simpa using h1, by rw [nmAt_key h1]; exact h3⟩
  · exact .inr ⟨h1, fun i hi => by rw [List.length_map] at hi; rw [nmAt_key hi]; exact h2 i hi⟩
theorem IdxN.bd {D : List Psn} {s : ByteArray} {r : Int} (h : IdxN D s r) : -1 ≤ r ∧ r < D.length + 1 := by
  rcases h with ⟨i, h1, h2, h3⟩ | ⟨h1, h2⟩ <;> omega
theorem rpFn_any (y : Psn) (gx : Nat) (s : ByteArray) (w : World) (p1 : w.cell? ⟨gx, 0, none⟩ = some (.string s)) (hgx : gx < w.heap.size) :
    Calls Tryd.prog 61 #[.agg #[.string y.name, .slice y.A y.x.length y.c], .pointer (some ⟨gx, 0, none⟩)] w fun e w' => e = .returned (.bool (y.name.toList == s.toList)) ∧ Below w.heap.size w w' := by
  have hb0 : Hid (Below w.heap.size w (w.alloc (.cells #[.string y.name, .slice y.A y.x.length y.c] 84))) := Lib.hid ((Below.refl _ _).alloc (Nat.le_refl _) _)
  go_enter Tryd.func61, Tryd.ntmps61
  go_wp2
  go_ret
  exact ⟨rfl, hb0.out⟩
set_option maxHeartbeats 1600000 in
theorem rpIndex_any (D : List Psn) (A : Option Addr) (c : Nat) (gx : Nat) (s : ByteArray) (w : World) (hr : RdL w w.heap.size A 2 Psn.enc D) (hl : D.length ≤ 1048576) (p1 : w.cell? ⟨gx, 0, none⟩ = some (.string s)) (hgx : gx < w.heap.size) :
    Calls Tryd.prog 60 #[.slice A D.length c, .func (.func 61) #[] #[.pointer (some ⟨gx, 0, none⟩)]] w fun e w' => ∃ r, e = .returned (.int .i64 r) ∧ IdxN D s r ∧ Below w.heap.size w w' := by
  have Hr := Lib.hid hr
  have P1 := Lib.hid p1
  clear hr p1
  go_enter Tryd.func60, Tryd.ntmps60
  go_wp2
  go_loopw [8] (fun i wr => ∃ k : Nat, k ≤ D.length ∧ i = .int .i64 k ∧ (∀ (j : Nat) (hj : j < D.length), j < k → D[j].name ≠ s) ∧ Below w.heap.size w wr) (fun i _ => D.length - (intOf i).toNat)
  case atStart => exact ⟨0, by omega, by rfl, fun j _ h => by omega, Below.refl _ _⟩
  case round =>
    obtain ⟨k, hk, rfl, hq, hbl⟩ := hrel
    have Hq := Lib.hid hq
    have Hbl := Lib.hid hbl
    have hgs := hbl.size
    clear hq hbl
    by_cases hlt : k < D.length
    · obtain ⟨g, off, hA, hg, hcell⟩ := Hr.out.at (k := k) (by omega)
      subst hA
      have r0 := (Hbl.out.cell (p := ⟨g, off + k * 2, none⟩) hg).trans (hcell 0 _ rfl)
      have r1 := (Hbl.out.cell (p := ⟨g, off + k * 2 + 1, none⟩) hg).trans (hcell 1 _ rfl)
      have q1 : Hid (wr.cell? ⟨gx, 0, none⟩ = some (.string s)) := Lib.hid ((Hbl.out.cell (p := ⟨gx, 0, none⟩) hgx).trans P1.out)
      obtain ⟨x, hx⟩ : ∃ x, Hid (D[k]'(by omega) = x) := ⟨_, Lib.hid rfl⟩
      rw [hx.out] at r0 r1
      have hgx2 : gx < wr.heap.size := Nat.lt_of_lt_of_le hgx hgs
      clear hcell
      by_cases e : x.name = s
      · have e5 : (x.name.toList == s.toList) = true := by rw [e]; simp
        have E := Lib.hid e
        clear e
        go_wp2_with (go_at_call 61; refine (rpFn_any x gx s _ q1.out hgx2).mono ?_; rintro e w' ⟨rfl, hb2⟩)
        go_ret
        exact ⟨(k : Int), rfl, .inl ⟨k, hlt, rfl, by rw [hx.out]; exact E.out⟩, Hbl.out.trans (hb2.mono hgs)⟩
      · have e5 : (x.name.toList == s.toList) = false := by
          refine beq_eq_false_iff_ne.2 fun e' => e ?_
          rw [ByteArray.toList_eq, ByteArray.toList_eq] at e'
          exact bytes_ext e'
        have E := Lib.hid e
        clear e
        go_wp2_with (go_at_call 61; refine (rpFn_any x gx s _ q1.out hgx2).mono ?_; rintro e w' ⟨rfl, hb2⟩)
        go_roundw
        case rel =>
          refine ⟨k + 1, by omega, by go_num, fun j hj h1 => ?_, Hbl.out.trans (hb2.mono hgs)⟩
          rcases Nat.lt_or_eq_of_le (Nat.le_of_lt_succ h1) with h' | rfl
          · exact Hq.out j hj h'
          · rw [hx.out]; exact E.out
        case measure => simp [intOf]; omega
    · obtain rfl : k = D.length := by omega
      go_wp2
      go_ret
      exact ⟨-1, rfl, .inr ⟨rfl, fun i hi => Hq.out i hi hi⟩, Hbl.out⟩
theorem cut58_any (y : ByteArray) (w : World) (hsz : y.size ≤ 1048576) (hm : Mlen w) :
    Calls Tryd.prog 59 #[.string y, .string ⟨#[58]⟩] w fun e w' => ∃ a b, e = .returned (.tuple #[.string a, .string (nmI y), .bool b]) ∧ Below w.heap.size w w' := by
  obtain ⟨m, hm⟩ := hm
  refine (Tryd.strings_Cut y ⟨#[58]⟩ m w (by omega) hm).mono ?_
  rintro e w' ⟨rfl, n, rfl⟩
  exact ⟨_, _, rfl, below_drewN (Below.refl _ _) _⟩


set_option maxHeartbeats 3200000 in
theorem iReadPlacing_any (l : List Pk) (A : Option Addr) (c : Nat) (n : Int) (s : ByteArray) (w : World) (h : RdP w w.heap.size A l) (hl : l.length ≤ 1048576) (hc : l.length ≤ c) (hs : ∀ x ∈ l, Person_small 1048576 x) (hsz : s.size ≤ 1048576) (htab : Tab w) (hm : Mlen w) : Calls Tryd.prog 23 #[.slice A l.length c, .int .i64 n, .string s] w fun e w' => RpPost l n s w e w' := by
  have Hone : Hid (∀ x : Int, ∀ u ∈ [Value.int .i64 x], u.oneCell' = true) := Lib.hid (by intro x u hu; simp at hu; subst hu; rfl)
  have HSp := Lib.hid (split_any s 32 w hsz hm)
  have Hm := Lib.hid hm
  have Htab := Lib.hid htab
  have Hrd := Lib.hid h
  have Hsm := Lib.hid hs
  obtain ⟨L, hL⟩ : ∃ L, Hid (splitS 32 s = L) := ⟨_, Lib.hid rfl⟩
  rw [hL.out] at HSp
  have hys : Hid (∀ k (h : k < L.length), (L[k]'h).size ≤ 1048576) := Lib.hid fun k h => Nat.le_trans (piece_size (c := 32) (s := s) (by rw [hL.out]; exact List.getElem_mem h)) hsz
  have hLs : L.length ≤ 1048577 := by
    have h1 := (splitB_splitS 32 s).2
    have h2 : Lib.countB s ⟨#[32]⟩ = s.data.toList.count 32 := Lib.count_one 32 _
    have h3 : s.data.toList.count 32 ≤ s.data.toList.length := List.count_le_length
    have h4 : s.data.toList.length = s.size := rfl
    rw [hL.out] at h1; omega
  have HG : Hid (∀ W, Below w.heap.size w W → Calls Tryd.prog 58 #[.slice A l.length c, .int .i64 n] W fun e w' => e = .returned (.bool (B (peopleP l n))) ∧ Below W.heap.size W w') := Lib.hid fun W hb => iPeople_any l A c n W ((h.below hb (Nat.le_refl _)).more hb.size) hl hc hs
  clear h hs htab hm
  by_cases hp : peopleP l n
  rotate_left
  · have e1 := B_f hp
    have hno : Hid (∀ who, ¬ TxtP l n who s) := Lib.hid fun who h => hp h.1.1
    clear hp
    go_enter Tryd.func23, Tryd.ntmps23
    go_wp2_with (first | (go_at_call 57; refine HSp.out.mono ?_; rintro e w1 ⟨rfl, hr1, hb1⟩; have Hb1 := Lib.hid hb1; clear hr1 hb1) | (go_at_call 58; refine (HG.out _ Hb1.out).mono ?_; rintro e w2 ⟨rfl, hb2⟩; rw [e1]))
    go_ret2
    exact rpNo hno.out rfl (Hb1.out.trans (hb2.mono Hb1.out.size))
  have e1 := B_t hp
  by_cases hs2 : 200 < s.size
  · have e2 : decide ((200 : Int) < (s.size : Int)) = true := by simp; omega
    have hno : Hid (∀ who, ¬ TxtP l n who s) := Lib.hid fun who h => by have := h.2.2; omega
    clear hp
    go_enter Tryd.func23, Tryd.ntmps23
    go_wp2_with (first | (go_at_call 57; refine HSp.out.mono ?_; rintro e w1 ⟨rfl, hr1, hb1⟩; have Hb1 := Lib.hid hb1; clear hr1 hb1) | (go_at_call 58; refine (HG.out _ Hb1.out).mono ?_; rintro e w2 ⟨rfl, hb2⟩; rw [e1]))
    go_ret2
    exact rpNo hno.out rfl (Hb1.out.trans (hb2.mono Hb1.out.size))
  have e2 : decide ((200 : Int) < (s.size : Int)) = false := by simp; omega
  by_cases hn : (L.length : Int) = n
  rotate_left
  · have e3 : ((L.length : Int) == n) = false := by simpa using hn
    have hno : Hid (∀ who, ¬ TxtP l n who s) := Lib.hid fun who h => hn (by rw [← hL.out]; exact h.len)
    clear hp hn
    go_enter Tryd.func23, Tryd.ntmps23
    go_wp2_with (first | (go_at_call 57; refine HSp.out.mono ?_; rintro e w1 ⟨rfl, hr1, hb1⟩; have Hb1 := Lib.hid hb1; clear hr1 hb1) | (go_at_call 58; refine (HG.out _ Hb1.out).mono ?_; rintro e w2 ⟨rfl, hb2⟩; rw [e1]))
    go_ret2
    exact rpNo hno.out rfl (Hb1.out.trans (hb2.mono Hb1.out.size))
  have e3 : ((L.length : Int) == n) = true := by simpa using hn
  have e4 : ((L.length : Int) != n) = false := by rw [bne, e3]; rfl
  have Hn := Lib.hid hn
  have Hp := Lib.hid hp
  clear hn hp
  go_enter Tryd.func23, Tryd.ntmps23
  go_wp2_with (first | (go_at_call 57; refine HSp.out.mono ?_; rintro e w1 ⟨rfl, hr1, hb1⟩; have Hb1 := Lib.hid hb1; have Hr1 := Lib.hid hr1; clear hr1 hb1) | (go_at_call 58; refine (HG.out _ Hb1.out).mono ?_; rintro e w2 ⟨rfl, hb2⟩; have Hr2 := Lib.hid ((Hr1.out.below hb2 (Nat.le_refl _)).more hb2.size); have Hb2 := Lib.hid (Hb1.out.trans (hb2.mono Hb1.out.size)); clear hb2; rw [e1]))
  have hz2 := Hb2.out.size
  obtain ⟨D, hD, hrD, _⟩ := (Hrd.out.below Hb2.out (Nat.le_refl _)).more hz2
  have hDl : D.length = l.length := by rw [← hD]; simp
  have HD := Lib.hid hD
  have HrD := Lib.hid hrD
  have Hdl := Lib.hid hDl
  have Hm2 := Lib.hid (Hm.out.later Hb2.out)
  have hD9 : D.length ≤ 1048576 := by omega
  clear hD hrD hDl
  skip
  go_loopw [9, 37] (fun v i wr => ∃ (k : Nat) (W : List Int), k ≤ L.length ∧ W.length = k ∧ i = .int .i64 (k : Int) ∧ Hid (PartW (WdI l) L W) ∧ Grow wr w2.heap.size 3 1 encInt v W ∧ Below w2.heap.size w2 wr) (fun _ i _ => L.length - (intOf i).toNat)
  case atStart => exact ⟨0, [], by omega, rfl, by rfl, Lib.hid PartW.nil, Grow.empty (Nat.le_refl _), (Below.refl _ _).alloc (Nat.le_refl _) _⟩
  case round =>
    obtain ⟨k, W, hk, hlk, rfl, hpt, hgr, hbl⟩ := hrel
    have HGr := Lib.hid hgr
    have Hbl := Lib.hid hbl
    have hzr := hbl.size
    have Hmr := Lib.hid (Hm2.out.later hbl)
    have Hlk := Lib.hid hlk
    clear hgr hbl hlk
    by_cases hlt : k < L.length
    · obtain ⟨g, off, hA, hg, hcell⟩ := Hr2.out.at hlt
      have r0 := (Hbl.out.cell (p := ⟨g, off + k * 1, none⟩) hg).trans (hcell 0 _ rfl)
      injection hA with hA
      injection hA with hA1 hA2
      subst hA1 hA2
      clear hcell
      rw [Nat.mul_one, Nat.zero_add] at r0
      have hy := hys.out k hlt
      obtain ⟨y, Hy⟩ : ∃ y, Hid (L[k] = y) := ⟨_, Lib.hid rfl⟩
      rw [Hy.out] at r0 hy
      go_upto_region 9 with (go_at_call 59; refine (cut58_any y wr hy Hmr.out).mono ?_; rintro e w3 ⟨ca, cb, rfl, hb3⟩; have Hb3 := Lib.hid (Hbl.out.trans (hb3.mono hzr)); have HGr3 := Lib.hid (HGr.out.later hb3); have hz3 := hb3.size; clear hb3)
      have hz33 : w2.heap.size ≤ w3.heap.size := by omega
      obtain ⟨W4, hW4, C4, hs4, Hb4, HGr4⟩ : ∃ W4 : World, Hid (w3.alloc (.cells #[.string (nmI y)] 9) = W4) ∧ W4.cell? ⟨w3.heap.size, 0, none⟩ = some (.string (nmI y)) ∧ w3.heap.size < W4.heap.size ∧ Hid (Below w2.heap.size w2 W4) ∧ Hid (Grow W4 w2.heap.size 3 1 encInt u9 W) :=
        ⟨_, Lib.hid rfl, by rw [World.cell?_alloc_new]; rfl, by simp, Lib.hid (Hb3.out.alloc hz33 _), Lib.hid (HGr3.out.alloc _)⟩
      rw [hW4.out]
      clear hW4
      have hz4 := Hb4.out.size
      have HX := Lib.hid (rpIndex_any D A c w3.heap.size (nmI y) W4 ((HrD.out.below Hb4.out (Nat.le_refl _)).more hz4) hD9 C4 hs4)
      rw [Hdl.out] at HX
      have hW9 : W.length ≤ 1048577 := by have := Hlk.out; omega
      go_wp2_with (first | (go_at_call 60; refine HX.out.mono ?_; rintro e w5 ⟨r, rfl, hix, hb5⟩; have Hix := Lib.hid hix; have Hb5 := Lib.hid (Hb4.out.trans (hb5.mono hz4)); have hz5 := Hb5.out.size; have HGr5 := Lib.hid (HGr4.out.later hb5); clear hb5 hix) | (at_builtin; go_loud (refine wpList_push rfl (.tmp 47) (.tmp 51) 42 rfl w2.heap.size 3 _ 1 8 encInt rfl Int_info rfl (by omega) u9 W [r] 1 rfl rfl (by simp) HGr5.out rfl encInt_len (Hone.out _) (by simp only [List.length_singleton]; omega) (by omega) (by omega) ?_); intro v' w2 hg2 hb2 _))
      go_roundw
      case rel => exact ⟨k + 1, W ++ [r], by omega, by rw [List.length_append, Hlk.out]; rfl, by go_num, Lib.hid (hpt.out.snoc Hlk.out hlt (by rw [Hy.out, ← HD.out]; exact Hix.out.wd)), hg2, Hb5.out.trans hb2⟩
      case measure => simp [intOf]; omega
    · have hkL : W.length = L.length := by have := Hlk.out; omega
      have HkL := Lib.hid hkL
      have hW9 : W.length ≤ 1048577 := by omega
      obtain ⟨A', c', hv, ho⟩ := HGr.out.own encInt_len
      have Ho := Lib.hid ho
      subst hv
      have hcap := HGr.out.capN
      have hbr := Lib.hid (Hb2.out.trans (Hbl.out.mono hz2))
      have hzw := hbr.out.size
      have hW7 : W.length ≤ 1048576 := by
        have h1 := Hn.out
        have h2 := Hp.out.1.2
        omega
      have hRd := (Hrd.out.below hbr.out (Nat.le_refl _)).more hzw
      by_cases hpl : placingP l n W
      · have HT := Lib.hid (iPlacingText_t l W A A' c c' n wr hRd (ho.rd encInt_len) hl hc Hsm.out hW7 hcap (Htab.out.later hbr.out) hpl)
        obtain ⟨X, hX⟩ : ∃ X, Hid (plTo l W W.length = X) := ⟨_, Lib.hid rfl⟩
        rw [hX.out] at HT
        have Hpl := Lib.hid hpl
        clear hpl hRd ho hkL
        by_cases hXs : X = s
        · have hyes : Hid (TxtP l n W s) := Lib.hid ⟨Hpl.out, by rw [hX.out, hXs], by omega⟩
          subst hXs
          go_wp2_with (go_at_call 20; refine HT.out.mono ?_; rintro e w3 ⟨rfl, hb3⟩)
          go_ret2
          exact rpYes hyes.out rfl hcap ((Ho.out.later hb3).mono hz2 hb3.size) (hbr.out.trans (hb3.mono hzw))
        · have hno : Hid (∀ who, ¬ TxtP l n who s) := Lib.hid fun who h => by
            have := h.allI (W := W) (by rw [hL.out]; exact HkL.out) (by rw [hL.out]; exact hpt.out)
            subst this
            exact hXs (hX.out.symm.trans h.2.1)
          have e5 : (X.toList == s.toList) = false := by
            refine beq_eq_false_iff_ne.2 fun e => hXs ?_
            rw [ByteArray.toList_eq, ByteArray.toList_eq] at e
            exact bytes_ext e
          clear hXs
          go_wp2_with (go_at_call 20; refine HT.out.mono ?_; rintro e w3 ⟨rfl, hb3⟩)
          go_ret2
          exact rpNo hno.out rfl (hbr.out.trans (hb3.mono hzw))
      · have HT := Lib.hid (iPlacingText_f l W A A' c c' n wr hRd (ho.rd encInt_len) hl hc Hsm.out hW7 hcap hpl)
        have hno : Hid (∀ who, ¬ TxtP l n who s) := Lib.hid fun who h => by
          have := h.allI (W := W) (by rw [hL.out]; exact HkL.out) (by rw [hL.out]; exact hpt.out)
          subst this
          exact hpl h.1
        clear hpl hRd ho hkL
        go_wp2_with (go_at_call 20; refine HT.out.mono ?_; rintro e w3 ⟨rfl, hb3⟩)
        go_ret2
        exact rpNo hno.out rfl (hbr.out.trans (hb3.mono hzw))
/-- The last place of a name among the first j, where the word has two parts. -/
def LastN (D : List Psn) (y : ByteArray) (j : Nat) (r : Int) : Prop := (∃ (i : Nat) (h : i < D.length), i < j ∧ r = (i : Int) ∧ ∃ a, splitS 58 y = [a, D[i].name]) ∨ (r = -1 ∧ ∀ (i : Nat) (h : i < D.length), i < j → ¬ ∃ a, splitS 58 y = [a, D[i].name])
theorem LastN.zero (D : List Psn) (y : ByteArray) : LastN D y 0 (-1) := .inr ⟨rfl, fun i _ h => by omega⟩
theorem LastN.hit {D : List Psn} {y a : ByteArray} {j : Nat} (hj : j < D.length) (e : splitS 58 y = [a, D[j].name]) : LastN D y (j + 1) (j : Int) := .inl ⟨j, hj, by omega, rfl, a, e⟩
theorem LastN.miss {D : List Psn} {y : ByteArray} {j : Nat} {r : Int} (h : LastN D y j r) (hj : j < D.length) (e : ¬ ∃ a, splitS 58 y = [a, D[j].name]) : LastN D y (j + 1) r := by
  rcases h with ⟨i, h1, h2, h3, h4⟩ | ⟨h1, h2⟩
  · exact .inl ⟨i, h1, by omega, h3, h4⟩
  · refine .inr ⟨h1, fun i hi hij => ?_⟩
    rcases Nat.lt_or_eq_of_le (Nat.le_of_lt_succ hij) with h3 | rfl
    · exact h2 i hi h3
    · exact e
theorem LastN.wd {D : List Psn} {y : ByteArray} {r : Int} (h : LastN D y D.length r) : WdS (D.map Psn.key) y r := by
  rcases h with ⟨i, h1, h2, h3, h4⟩ | ⟨h1, h2⟩
  · exact .inl ⟨i, h3, by simpa using h1, by rw [nmAt_key h1]; exact h4⟩
  · exact .inr ⟨h1, fun i hi => by rw [List.length_map] at hi; rw [nmAt_key hi]; exact h2 i hi hi⟩

set_option maxHeartbeats 3200000 in
theorem sReadPlacing_any (l : List Pk) (A : Option Addr) (c : Nat) (n : Int) (s : ByteArray) (w : World) (h : RdP w w.heap.size A l) (hl : l.length ≤ 1048576) (hc : l.length ≤ c) (hs : ∀ x ∈ l, Person_small 1048576 x) (hsz : s.size ≤ 1048576) (htab : Tab w) : Calls Tryd.prog 24 #[.slice A l.length c, .int .i64 n, .string s] w fun e w' => RpPost l n s w e w' := by
  have Hone : Hid (∀ x : Int, ∀ u ∈ [Value.int .i64 x], u.oneCell' = true) := Lib.hid (by intro x u hu; simp at hu; subst hu; rfl)
  have HG := Lib.hid (sPeople_any l A c n w h hl hc hs)
  have Htab := Lib.hid htab
  have Hrd := Lib.hid h
  have Hsm := Lib.hid hs
  obtain ⟨L, hL⟩ : ∃ L, Hid (splitS 32 s = L) := ⟨_, Lib.hid rfl⟩
  have hys : Hid (∀ k (h : k < L.length), (L[k]'h).size ≤ 1048576) := Lib.hid fun k h => Nat.le_trans (piece_size (c := 32) (s := s) (by rw [hL.out]; exact List.getElem_mem h)) hsz
  clear h hs htab
  by_cases hp : peopleP l n
  rotate_left
  · have e1 := B_f hp
    have hno : Hid (∀ who, ¬ TxtP l n who s) := Lib.hid fun who h => hp h.1.1
    clear hp
    go_enter Tryd.func24, Tryd.ntmps24
    go_wp2_with (go_at_call 62; refine HG.out.mono ?_; rintro e w1 ⟨rfl, hb1⟩; rw [e1])
    go_ret2
    exact rpNo hno.out rfl hb1
  have e1 := B_t hp
  by_cases hs2 : 200 < s.size
  · have e2 : decide ((200 : Int) < (s.size : Int)) = true := by simp; omega
    have hno : Hid (∀ who, ¬ TxtP l n who s) := Lib.hid fun who h => by have := h.2.2; omega
    clear hp
    go_enter Tryd.func24, Tryd.ntmps24
    go_wp2_with (go_at_call 62; refine HG.out.mono ?_; rintro e w1 ⟨rfl, hb1⟩; rw [e1])
    go_ret2
    exact rpNo hno.out rfl hb1
  have e2 : decide ((200 : Int) < (s.size : Int)) = false := by simp; omega
  have hLs : L.length ≤ 201 := by
    have h1 := (splitB_splitS 32 s).2
    have h2 : Lib.countB s ⟨#[32]⟩ = s.data.toList.count 32 := Lib.count_one 32 _
    have h3 : s.data.toList.count 32 ≤ s.data.toList.length := List.count_le_length
    have h4 : s.data.toList.length = s.size := rfl
    rw [hL.out] at h1; omega
  have Hp := Lib.hid hp
  clear hp
  go_enter Tryd.func24, Tryd.ntmps24
  go_upto_region 5 with (first | (go_at_call 62; refine HG.out.mono ?_; rintro e w1 ⟨rfl, hb1⟩; have Hb1 := Lib.hid hb1; clear hb1; rw [e1]) | (go_at_call 63; refine (l1Split_any s 32 _ hsz).mono ?_; rintro e w2 ⟨AL, cL, rfl, hcL, hoL, hb2⟩; rw [hL.out] at hcL hoL ⊢; have Hr2 := Lib.hid (hoL.rd encString_len); have Hb2 := Lib.hid (Hb1.out.trans (hb2.mono Hb1.out.size)); clear hb2 hoL hcL))
  have hz2 := Hb2.out.size
  obtain ⟨D, hD, hrD, _⟩ := (Hrd.out.below Hb2.out (Nat.le_refl _)).more hz2
  have hDl : D.length = l.length := by rw [← hD]; simp
  have HD := Lib.hid hD
  have HrD := Lib.hid hrD
  have Hdl := Lib.hid hDl
  have hD9 : D.length ≤ 1048576 := by omega
  clear hD hrD hDl
  go_loopw [8, 27] (fun v i wr => ∃ (k : Nat) (W : List Int), k ≤ L.length ∧ W.length = k ∧ i = .int .i64 (k : Int) ∧ Hid (PartW (WdS l) L W) ∧ Grow wr w2.heap.size 3 1 encInt v W ∧ Below w2.heap.size w2 wr) (fun _ i _ => L.length - (intOf i).toNat)
  case atStart => exact ⟨0, [], by omega, rfl, by rfl, Lib.hid PartW.nil, Grow.nil, Below.refl _ _⟩
  case round =>
    obtain ⟨wo, rfl⟩ : ∃ wo, wo = wr := ⟨wr, rfl⟩
    obtain ⟨k, W, hk, hlk, rfl, hpt, hgr, hbl⟩ := hrel
    have HGr := Lib.hid hgr
    have Hbl := Lib.hid hbl
    have hzr := hbl.size
    have Hlk := Lib.hid hlk
    clear hgr hbl hlk
    by_cases hlt : k < L.length
    · obtain ⟨g, off, hA, hg, hcell⟩ := Hr2.out.at hlt
      have r0 := (Hbl.out.cell (p := ⟨g, off + k * 1, none⟩) hg).trans (hcell 0 _ rfl)
      subst hA
      clear hcell
      rw [Nat.mul_one] at r0
      have hy := hys.out k hlt
      obtain ⟨y, Hy⟩ : ∃ y, Hid (L[k] = y) := ⟨_, Lib.hid rfl⟩
      rw [Hy.out] at r0 hy
      have hW9 : W.length ≤ 1048577 := by have := Hlk.out; omega
      by_cases h2 : (splitS 58 y).length = 2
      · obtain ⟨a, b, hab⟩ : ∃ a b, splitS 58 y = [a, b] := by
          match h : splitS 58 y, h2 with
          | [a, b], _ => exact ⟨a, b, rfl⟩
        have HC : Hid (Calls Tryd.prog 63 #[.string y, .int .u8 58] wo fun e w' => ∃ g2 cc, e = .returned (.slice (some ⟨g2, 0, none⟩) 2 cc) ∧ g2 < w'.heap.size ∧ w'.cell? ⟨g2, 1, none⟩ = some (.string b) ∧ Below wo.heap.size wo w') := Lib.hid (by
          refine (l1Split_any y 58 wo hy).mono ?_
          rintro e w' ⟨A2, cc, rfl, hcc, ho, hb⟩
          rw [hab] at ho ⊢
          obtain ⟨g2, f, rfl, h3, h4, h5⟩ := ho.cells (by simp)
          have h6 := ho.rd encString_len
          obtain ⟨g4, off4, hA4, hg4, hc4⟩ := h6.at (k := 1) (by simp)
          injection hA4 with hA4; injection hA4 with q1 q2; subst q1 q2
          exact ⟨g2, cc, rfl, hg4, by simpa using hc4 0 _ rfl, hb⟩)
        have Hab := Lib.hid hab
        clear h2 hab
        go_upto_region 10 with (go_at_call 63; refine HC.out.mono ?_; rintro e w3 ⟨g2, c2, rfl, hg2, C1, hb3⟩; have Hb3 := Lib.hid (Hbl.out.trans (hb3.mono hzr)); have HGr3 := Lib.hid (HGr.out.later hb3); clear hb3)
        have hz3 := Hb3.out.size
        have HrD3 := Lib.hid ((HrD.out.below Hb3.out (Nat.le_refl _)).more hz3)
        go_loopw [12, 35] (fun v i wr => ∃ (j : Nat) (r : Int), j ≤ l.length ∧ i = .int .i64 (j : Int) ∧ v = .int .i64 r ∧ Hid (LastN D y j r) ∧ Below w3.heap.size w3 wr) (fun _ i _ => l.length - (intOf i).toNat)
        case atStart => exact ⟨0, -1, by omega, by rfl, by rfl, Lib.hid (LastN.zero D y), Below.refl _ _⟩
        case round =>
          obtain ⟨j, r, hj, rfl, rfl, hr9, hbw⟩ := hrel
          have Hbw := Lib.hid hbw
          have hzw := hbw.size
          have Hb4 := Lib.hid (Hb3.out.trans (hbw.mono hz3))
          have HGr4 := Lib.hid (HGr3.out.later hbw)
          have hz4 := Hb4.out.size
          clear hbw
          by_cases hlt3 : j < l.length
          · have hlt2 : j < D.length := by have := Hdl.out; omega
            obtain ⟨gd, od, hA, hgd, hcell⟩ := HrD3.out.at hlt2
            have d0 := (Hbw.out.cell (p := ⟨gd, od + j * 2, none⟩) hgd).trans (hcell 0 _ rfl)
            have d1 := (Hbw.out.cell (p := ⟨gd, od + j * 2 + 1, none⟩) hgd).trans (hcell 1 _ rfl)
            subst hA
            clear hcell
            obtain ⟨x, hx⟩ : ∃ x, Hid (D[j] = x) := ⟨_, Lib.hid rfl⟩
            rw [hx.out] at d0 d1
            go_upto_region 12 with fail
            obtain ⟨W5, hW5, K0, K1, HB5⟩ : ∃ W5 : World, Hid (wr.alloc (.cells #[.string x.name, .slice x.A x.x.length x.c] 84) = W5) ∧ W5.cell? ⟨wr.heap.size, 0, none⟩ = some (.string x.name) ∧ W5.cell? ⟨g2, 1, none⟩ = some (.string b) ∧ Hid (Below w3.heap.size w3 W5) :=
              ⟨_, Lib.hid rfl, by rw [World.cell?_alloc_new]; rfl, by rw [World.cell?_alloc_lt _ _ _ (show g2 < wr.heap.size by omega)]; exact (Hbw.out.cell (p := ⟨g2, 1, none⟩) hg2).trans C1, Lib.hid (Hbw.out.alloc hzw _)⟩
            rw [hW5.out]
            clear hW5 d0 d1
            by_cases e : x.name = b
            · have e5 : (x.name.toList == b.toList) = true := by rw [e]; simp
              have hr10 : Hid (LastN D y (j + 1) (j : Int)) := Lib.hid (LastN.hit hlt2 (a := a) (by rw [Hab.out, hx.out, e]))
              clear e
              go_quiet (fail)
              go_wp2
              go_roundw
              case rel => exact ⟨j + 1, (j : Int), by omega, by go_num, by rfl, hr10, below_drewN HB5.out _⟩
              case measure => simp [intOf]; omega
            · have e5 : (x.name.toList == b.toList) = false := by
                refine beq_eq_false_iff_ne.2 fun e' => e ?_
                rw [ByteArray.toList_eq, ByteArray.toList_eq] at e'
                exact bytes_ext e'
              have hr10 : Hid (LastN D y (j + 1) r) := Lib.hid (hr9.out.miss hlt2 (fun ⟨a', ha⟩ => by rw [Hab.out, hx.out] at ha; simp only [List.cons.injEq, and_true] at ha; exact e ha.2.symm))
              clear e
              go_quiet (fail)
              go_wp2
              go_roundw
              case rel => exact ⟨j + 1, r, by omega, by go_num, by rfl, hr10, below_drewN HB5.out _⟩
              case measure => simp [intOf]; omega
          · obtain rfl : j = l.length := by omega
            have hr10 : Hid (LastN D y D.length r) := Lib.hid (by rw [Hdl.out]; exact hr9.out)
            go_wp2_with (at_builtin; go_loud (refine wpList_push rfl (.tmp 53) (.tmp 55) 42 rfl w2.heap.size 3 _ 1 8 encInt rfl Int_info rfl (by omega) u8 W [r] 1 rfl rfl (by simp) HGr4.out rfl encInt_len (Hone.out _) (by simp only [List.length_singleton]; omega) (by omega) (by omega) ?_); intro v' w2 hg2 hb2 _)
            go_roundw
            case rel => exact ⟨k + 1, W ++ [r], by omega, by rw [List.length_append, Hlk.out]; rfl, by go_num, Lib.hid (hpt.out.snoc Hlk.out hlt (by rw [Hy.out, ← HD.out]; exact hr10.out.wd)), hg2, Hb4.out.trans hb2⟩
            case measure => simp [intOf]; omega
      · obtain ⟨m, hm⟩ : ∃ m, Hid ((splitS 58 y).length = m) := ⟨_, Lib.hid rfl⟩
        rw [hm.out] at h2
        have e4 : ((m : Int) == 2) = false := by simp; omega
        have hno2 : Hid (∀ x : ByteArray, ¬ ∃ a, splitS 58 y = [a, x]) := Lib.hid (fun x ⟨a, ha⟩ => by have := hm.out; rw [ha] at this; simp at this; omega)
        have HC := Lib.hid (l1Split_any y 58 wo hy)
        rw [hm.out] at HC
        clear h2
        go_upto_region 10 with (go_at_call 63; refine HC.out.mono ?_; rintro e w3 ⟨A2, c2, rfl, hc2, ho2, hb3⟩; have Hb3 := Lib.hid (Hbl.out.trans (hb3.mono hzr)); have HGr3 := Lib.hid (HGr.out.later hb3); clear hb3 ho2 hc2)
        have hz3 := Hb3.out.size
        have HrD3 := Lib.hid ((HrD.out.below Hb3.out (Nat.le_refl _)).more hz3)
        go_loopw [12, 35] (fun v i wr => ∃ (j : Nat) (r : Int), j ≤ l.length ∧ i = .int .i64 (j : Int) ∧ v = .int .i64 r ∧ Hid (LastN D y j r) ∧ Below w3.heap.size w3 wr) (fun _ i _ => l.length - (intOf i).toNat)
        case atStart => exact ⟨0, -1, by omega, by rfl, by rfl, Lib.hid (LastN.zero D y), Below.refl _ _⟩
        case round =>
          obtain ⟨j, r, hj, rfl, rfl, hr9, hbw⟩ := hrel
          have Hbw := Lib.hid hbw
          have hzw := hbw.size
          have Hb4 := Lib.hid (Hb3.out.trans (hbw.mono hz3))
          have HGr4 := Lib.hid (HGr3.out.later hbw)
          have hz4 := Hb4.out.size
          clear hbw
          by_cases hlt3 : j < l.length
          · have hlt2 : j < D.length := by have := Hdl.out; omega
            obtain ⟨gd, od, hA, hgd, hcell⟩ := HrD3.out.at hlt2
            have d0 := (Hbw.out.cell (p := ⟨gd, od + j * 2, none⟩) hgd).trans (hcell 0 _ rfl)
            have d1 := (Hbw.out.cell (p := ⟨gd, od + j * 2 + 1, none⟩) hgd).trans (hcell 1 _ rfl)
            subst hA
            clear hcell
            obtain ⟨x, hx⟩ : ∃ x, Hid (D[j] = x) := ⟨_, Lib.hid rfl⟩
            rw [hx.out] at d0 d1
            go_upto_region 12 with fail
            obtain ⟨W5, hW5, HB5⟩ : ∃ W5 : World, Hid (wr.alloc (.cells #[.string x.name, .slice x.A x.x.length x.c] 84) = W5) ∧ Hid (Below w3.heap.size w3 W5) :=
              ⟨_, Lib.hid rfl, Lib.hid (Hbw.out.alloc hzw _)⟩
            rw [hW5.out]
            clear hW5 d0 d1
            have hr10 : Hid (LastN D y (j + 1) r) := Lib.hid (hr9.out.miss hlt2 (hno2.out _))
            go_quiet (fail)
            go_wp2
            go_roundw
            case rel => exact ⟨j + 1, r, by omega, by go_num, by rfl, hr10, below_drewN HB5.out _⟩
            case measure => simp [intOf]; omega
          · obtain rfl : j = l.length := by omega
            have hr10 : Hid (LastN D y D.length r) := Lib.hid (by rw [Hdl.out]; exact hr9.out)
            go_wp2_with (at_builtin; go_loud (refine wpList_push rfl (.tmp 53) (.tmp 55) 42 rfl w2.heap.size 3 _ 1 8 encInt rfl Int_info rfl (by omega) u8 W [r] 1 rfl rfl (by simp) HGr4.out rfl encInt_len (Hone.out _) (by simp only [List.length_singleton]; omega) (by omega) (by omega) ?_); intro v' w2 hg2 hb2 _)
            go_roundw
            case rel => exact ⟨k + 1, W ++ [r], by omega, by rw [List.length_append, Hlk.out]; rfl, by go_num, Lib.hid (hpt.out.snoc Hlk.out hlt (by rw [Hy.out, ← HD.out]; exact hr10.out.wd)), hg2, Hb4.out.trans hb2⟩
            case measure => simp [intOf]; omega
    · have hkL : W.length = L.length := by have := Hlk.out; omega
      have HkL := Lib.hid hkL
      have hW7 : W.length ≤ 1048576 := by omega
      obtain ⟨A', c', hv, ho⟩ := HGr.out.own encInt_len
      have Ho := Lib.hid ho
      subst hv
      have hcap := HGr.out.capN
      have hbr := Lib.hid (Hb2.out.trans (Hbl.out.mono hz2))
      have hzw := hbr.out.size
      have hRd := (Hrd.out.below hbr.out (Nat.le_refl _)).more hzw
      have HP := Lib.hid (sPlacing_any l W A A' c c' n wo hRd (ho.rd encInt_len) hl hc Hsm.out hW7 hcap)
      by_cases hpl : placingP l n W
      · have e6 := B_t hpl
        have HT : Hid (∀ w1, Below wo.heap.size wo w1 → Calls Tryd.prog 54 #[.slice A l.length c, .slice A' W.length c'] w1 fun e w' => e = .returned (.string (plTo l W W.length)) ∧ Below w1.heap.size w1 w') := Lib.hid fun w1 hb => l27Text_any l W A A' c c' n w1 ((hRd.below hb (Nat.le_refl _)).more hb.size) (((ho.rd encInt_len).below hb (Nat.le_refl _)).more hb.size) hl hW7 ((Htab.out.later hbr.out).later hb) hpl
        obtain ⟨X, hX⟩ : ∃ X, Hid (plTo l W W.length = X) := ⟨_, Lib.hid rfl⟩
        rw [hX.out] at HT
        have Hpl := Lib.hid hpl
        clear hpl hRd ho hkL
        by_cases hXs : X = s
        · have hyes : Hid (TxtP l n W s) := Lib.hid ⟨Hpl.out, by rw [hX.out, hXs], by omega⟩
          subst hXs
          go_wp2_with (first | (go_at_call 47; refine HP.out.mono ?_; rintro e w3 ⟨rfl, hb3⟩; rw [e6]) | (go_at_call 54; refine (HT.out _ hb3).mono ?_; rintro e w4 ⟨rfl, hb4⟩))
          go_ret2
          have hb34 := hb3.trans (hb4.mono hb3.size)
          exact rpYes hyes.out rfl hcap ((Ho.out.later hb34).mono hz2 hb34.size) (hbr.out.trans (hb34.mono hzw))
        · have hno : Hid (∀ who, ¬ TxtP l n who s) := Lib.hid fun who h => by
            have := h.allS (W := W) (by rw [hL.out]; exact HkL.out) (by rw [hL.out]; exact hpt.out)
            subst this
            exact hXs (hX.out.symm.trans h.2.1)
          have e5 : (X.toList == s.toList) = false := by
            refine beq_eq_false_iff_ne.2 fun e => hXs ?_
            rw [ByteArray.toList_eq, ByteArray.toList_eq] at e
            exact bytes_ext e
          clear hXs
          go_wp2_with (first | (go_at_call 47; refine HP.out.mono ?_; rintro e w3 ⟨rfl, hb3⟩; rw [e6]) | (go_at_call 54; refine (HT.out _ hb3).mono ?_; rintro e w4 ⟨rfl, hb4⟩))
          go_ret2
          have hb34 := hb3.trans (hb4.mono hb3.size)
          exact rpNo hno.out rfl (hbr.out.trans (hb34.mono hzw))
      · have e6 := B_f hpl
        have hno : Hid (∀ who, ¬ TxtP l n who s) := Lib.hid fun who h => by
          have := h.allS (W := W) (by rw [hL.out]; exact HkL.out) (by rw [hL.out]; exact hpt.out)
          subst this
          exact hpl h.1
        clear hpl hRd ho hkL
        go_wp2_with (go_at_call 47; refine HP.out.mono ?_; rintro e w3 ⟨rfl, hb3⟩; rw [e6])
        go_ret2
        exact rpNo hno.out rfl (hbr.out.trans (hb3.mono hzw))

theorem sReadPlacing_t (l : List Pk) (A : Option Addr) (c : Nat) (n : Int) (s : ByteArray) (w : World) (h : RdP w w.heap.size A l) (hl : l.length ≤ 1048576) (hc : l.length ≤ c) (hs : ∀ x ∈ l, Person_small 1048576 x) (hsz : s.size ≤ 1048576) (ht : TabM w) (who : List Int) (h0 : TxtP l n who s) : Calls Tryd.prog 24 #[.slice A l.length c, .int .i64 n, .string s] w fun e w' => ∃ A' c', e = .returned (.tuple #[.slice A' who.length c', .bool true]) ∧ OwnL w' w.heap.size w'.heap.size A' 1 encInt who ∧ Below w.heap.size w w' := by
  refine (sReadPlacing_any l A c n s w h hl hc hs hsz ht.1).mono ?_
  rintro e w' ⟨⟨l', A, c, h1, rfl, hc, ho⟩ | ⟨h1, _⟩, hb⟩
  · obtain rfl := h1.uniq h0; exact ⟨A, c, rfl, ho, hb⟩
  · exact absurd h0 (h1 who)
theorem sReadPlacing_f (l : List Pk) (A : Option Addr) (c : Nat) (n : Int) (s : ByteArray) (w : World) (h : RdP w w.heap.size A l) (hl : l.length ≤ 1048576) (hc : l.length ≤ c) (hs : ∀ x ∈ l, Person_small 1048576 x) (hsz : s.size ≤ 1048576) (ht : TabM w) (h0 : ¬ ∃ who, TxtP l n who s) : Calls Tryd.prog 24 #[.slice A l.length c, .int .i64 n, .string s] w fun e w' => e = .returned (.tuple #[.slice none 0 0, .bool false]) ∧ Below w.heap.size w w' := by
  refine (sReadPlacing_any l A c n s w h hl hc hs hsz ht.1).mono ?_
  rintro e w' ⟨⟨l', A, c, h1, rfl, hc, ho⟩ | ⟨_, rfl⟩, hb⟩
  · exact absurd ⟨l', h1⟩ h0
  · exact ⟨rfl, hb⟩
theorem iReadPlacing_t (l : List Pk) (A : Option Addr) (c : Nat) (n : Int) (s : ByteArray) (w : World) (h : RdP w w.heap.size A l) (hl : l.length ≤ 1048576) (hc : l.length ≤ c) (hs : ∀ x ∈ l, Person_small 1048576 x) (hsz : s.size ≤ 1048576) (ht : TabM w) (who : List Int) (h0 : TxtP l n who s) : Calls Tryd.prog 23 #[.slice A l.length c, .int .i64 n, .string s] w fun e w' => ∃ A' c', e = .returned (.tuple #[.slice A' who.length c', .bool true]) ∧ OwnL w' w.heap.size w'.heap.size A' 1 encInt who ∧ Below w.heap.size w w' := by
  refine (iReadPlacing_any l A c n s w h hl hc hs hsz ht.1 ht.2).mono ?_
  rintro e w' ⟨⟨l', A, c, h1, rfl, hc, ho⟩ | ⟨h1, _⟩, hb⟩
  · obtain rfl := h1.uniq h0; exact ⟨A, c, rfl, ho, hb⟩
  · exact absurd h0 (h1 who)
theorem iReadPlacing_f (l : List Pk) (A : Option Addr) (c : Nat) (n : Int) (s : ByteArray) (w : World) (h : RdP w w.heap.size A l) (hl : l.length ≤ 1048576) (hc : l.length ≤ c) (hs : ∀ x ∈ l, Person_small 1048576 x) (hsz : s.size ≤ 1048576) (ht : TabM w) (h0 : ¬ ∃ who, TxtP l n who s) : Calls Tryd.prog 23 #[.slice A l.length c, .int .i64 n, .string s] w fun e w' => e = .returned (.tuple #[.slice none 0 0, .bool false]) ∧ Below w.heap.size w w' := by
  refine (iReadPlacing_any l A c n s w h hl hc hs hsz ht.1 ht.2).mono ?_
  rintro e w' ⟨⟨l', A, c, h1, rfl, hc, ho⟩ | ⟨_, rfl⟩, hb⟩
  · exact absurd ⟨l', h1⟩ h0
  · exact ⟨rfl, hb⟩
end Go.Proofs.YtbfhfnejppfehaaDoor
