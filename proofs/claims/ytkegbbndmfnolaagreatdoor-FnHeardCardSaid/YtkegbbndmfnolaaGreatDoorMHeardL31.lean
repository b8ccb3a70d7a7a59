import Derived.Test.YtkegbbndmfnolaaGreatDoorMHeardL30
import Derived.Test.YtkegbbndmfnolaaGreatDoorMHeardLSh
import Derived.Test.YtkegbbndmfnolaaGreatDoorMHeardL03
import Derived.Test.YtkegbbndmfnolaaGreatDoorMHeardL05
import Derived.Test.YtkegbbndmfnolaaGreatDoorMHeardL04
import Derived.Test.YtkegbbndmfnolaaGreatDoorMHeardL10
import Derived.Test.YtkegbbndmfnolaaGreatDoorMHeardL07
import Derived.Deep.CutRange
/-
  ReadSpoken: walks of both sides.
-/
namespace Go.Proofs.YtkegbbndmfnolaaGreatDoor
open Go.RowKit
set_option linter.unusedVariables false
set_option linter.unusedSimpArgs false
set_option maxRecDepth 100000

set_option maxHeartbeats 1600000 in
theorem linesOf_any (s : ByteArray) (L : List ByteArray) (z : ByteArray) (hs : splitS 10 s = L ++ [z]) (w : World) (hsz : s.size ≤ 1048576) (hm : Mlen w) :
    Calls Tryz.prog 89 #[.string s] w fun e w' => ∃ A c, e = .returned (.tuple #[.slice A L.length c, .bool (B (z = ⟨#[]⟩))]) ∧ RdL w' w'.heap.size A 1 encString L ∧ Below w.heap.size w w' := by
  have hlen : L.length < 2 ^ 60 := by
    have h1 := (splitB_splitS 10 s).2
    have h2 : Lib.countB s ⟨#[10]⟩ = s.data.toList.count 10 := Lib.count_one 10 _
    have h3 : s.data.toList.count 10 ≤ s.data.toList.length := List.count_le_length
    have h4 : s.data.toList.length = s.size := rfl
    rw [hs, List.length_append] at h1
    simp at h1; omega
  have HS := Lib.hid (split_any s 10 w hsz hm)
  rw [hs] at HS
  have hL : (L ++ [z]).length = L.length + 1 := by simp
  rw [hL] at HS
  clear hs hsz hm hL
  go_enter Tryz.func89, Tryz.ntmps89
  go_upto_region 3 with (go_at_call 141; refine HS.out.mono ?_; rintro e w1 ⟨rfl, hr1, hb1⟩; have Hb1 := Lib.hid hb1; have Hr1 := Lib.hid hr1; have hz1 := hb1.size; clear hr1 hb1)
  have C : w1.cell? ⟨w.heap.size, L.length, none⟩ = some (.string z) := by
    rcases Hr1.out with h | ⟨g, off, hA, hg, hc⟩
    · simp at h
    · injection hA with hA; injection hA with h1 h2; subst h1 h2
      have := hc L.length (by simp) 0 (.string z) (by simp [encString])
      simpa using this
  have Hr2 : Hid (RdL w1 w1.heap.size (some ⟨w.heap.size, 0, none⟩) 1 encString L) := Lib.hid (by
    have := (Hr1.out).firsts L.length
    simpa using this)
  have e1 : B (z = ⟨#[]⟩) = z.toList.isEmpty := by
    rw [ByteArray.toList_eq]
    by_cases hz : z = ⟨#[]⟩
    · rw [B_t hz]; subst hz; rfl
    · rw [B_f hz]
      cases h : z.data.toList with
      | nil => exact absurd (bytes_ext (by rw [h])) hz
      | cons a b => rfl
  go_quiet (fail)
  go_wp2
  go_ret2
  exact ⟨some ⟨w.heap.size, 0, none⟩, L.length + 1, by rw [e1]; rfl, Hr2.out, below_drewN Hb1.out _⟩
/-- Lines read so far. -/
def PartR (R : ByteArray → Spk → Prop) (L : List ByteArray) (l : List Spk) : Prop := l.length ≤ L.length ∧ ∀ i (h1 : i < L.length) (h2 : i < l.length), R L[i] l[i]
theorem PartR.nil {R : ByteArray → Spk → Prop} {L : List ByteArray} : PartR R L [] := ⟨by simp, fun i _ h => by simp at h⟩
theorem PartR.snoc {R : ByteArray → Spk → Prop} {L : List ByteArray} {l : List Spk} (h : PartR R L l) {k : Nat} (hk : l.length = k) (hlt : k < L.length) {x : Spk} (hx : R (L[k]'hlt) x) : PartR R L (l ++ [x]) := by
  subst hk
  refine ⟨by simp; omega, fun i h1 h2 => ?_⟩
  by_cases hi : i < l.length
  · rw [List.getElem_append_left hi]; exact h.2 i h1 hi
  · have : i = l.length := by simp at h2; omega
    subst this
    rw [List.getElem_append_right (Nat.le_refl _)]
    simpa using hx
def RsPost (s : ByteArray) (w : World) (e : Ending) (w' : World) : Prop :=
  ((∃ l A c, TxtOf l s ∧ e = .returned (.tuple #[.slice A l.length c, .bool true]) ∧ OwnL w' w.heap.size w'.heap.size A 2 Spk.enc l) ∨ ((∀ l, ¬ TxtOf l s) ∧ e = .returned (.tuple #[.slice none 0 0, .bool false]))) ∧ Below w.heap.size w w'
theorem rsNo {s : ByteArray} {w w' : World} {e : Ending} (h : ∀ l, ¬ TxtOf l s) (he : e = .returned (.tuple #[.slice none 0 0, .bool false])) (hb : Below w.heap.size w w') : RsPost s w e w' := ⟨.inr ⟨h, he⟩, hb⟩
theorem rsYes {s : ByteArray} {w w' : World} {e : Ending} {l : List Spk} {A : Option Addr} {c : Nat} (h : TxtOf l s) (he : e = .returned (.tuple #[.slice A l.length c, .bool true])) (ho : OwnL w' w.heap.size w'.heap.size A 2 Spk.enc l) (hb : Below w.heap.size w w') : RsPost s w e w' := ⟨.inl ⟨l, A, c, h, he, ho⟩, hb⟩

set_option maxHeartbeats 3200000 in
theorem iReadSpoken_any (s : ByteArray) (w : World) (hsz : s.size ≤ 1048576) (hm : Mlen w) : Calls Tryz.prog 28 #[.string s] w fun e w' => RsPost s w e w' := by
  obtain ⟨L, z, hs⟩ := split_two 10 s
  have Hs := Lib.hid hs
  have Hm := Lib.hid hm
  have Hone : Hid (∀ (x : Int) (y : ByteArray), ∀ u ∈ [Value.int .i64 x, Value.string y], u.oneCell' = true) := Lib.hid (by intro x y u hu; simp at hu; rcases hu with rfl | rfl <;> rfl)
  have HLn := Lib.hid (linesOf_any s L z hs w hsz hm)
  clear hs hm
  go_enter Tryz.func28, Tryz.ntmps28
  go_upto_region 2 with (go_at_call 89; refine HLn.out.mono ?_; rintro e w1 ⟨A, c, rfl, hr1, hb1⟩; have Hb1 := Lib.hid hb1; have Hr1 := Lib.hid hr1; have hz1 := hb1.size; clear hr1 hb1)
  by_cases hz : z = ⟨#[]⟩
  rotate_left
  · have e1 := B_f hz
    have hno : Hid (∀ l, ¬ TxtOf l s) := Lib.hid fun l h => hz (h.two Hs.out).2
    clear hz
    go_wp2
    go_ret2
    exact rsNo hno.out rfl Hb1.out
  have e1 := B_t hz
  subst hz
  by_cases hlen : 63 < L.length
  · have hno : Hid (∀ l, ¬ TxtOf l s) := Lib.hid fun l h => by
      have h1 := (h.rdI Hs.out).1
      have h2 : l.length ≤ 63 := h.1.1
      omega
    have e2 : decide ((63 : Int) < (L.length : Int)) = true := by simp; omega
    go_wp2
    go_ret2
    exact rsNo hno.out rfl Hb1.out
  have e2 : decide ((63 : Int) < (L.length : Int)) = false := by simp; omega
  have hys : Hid (∀ k (h : k < L.length), (L[k]'h).size ≤ 1048576) := Lib.hid fun k h => Nat.le_trans (piece_size (c := 10) (s := s) (by rw [Hs.out]; exact List.mem_append.2 (.inl (List.getElem_mem h)))) hsz
  have Hm1 := Lib.hid (Hm.out.later Hb1.out)
  have hl63 : L.length ≤ 63 := by omega
  clear hlen
  go_wp2
  go_loopw [6, 29] (fun v i wr => ∃ (k : Nat) (l : List Spk), k ≤ L.length ∧ l.length = k ∧ i = .int .i64 (k : Int) ∧ Hid (PartR LnI L l) ∧ Grow wr w1.heap.size 108 2 Spk.enc v l ∧ Below w1.heap.size w1 wr) (fun _ i _ => L.length - (intOf i).toNat)
  case atStart => exact ⟨0, [], by omega, rfl, by rfl, Lib.hid PartR.nil, Grow.empty (Nat.le_refl _), (Below.refl _ _).alloc (Nat.le_refl _) _⟩
  case round =>
    obtain ⟨k, l, hk, hlk, rfl, hpt, hgr, hbl⟩ := hrel
    have HGr := Lib.hid hgr
    have Hbl := Lib.hid hbl
    have hzr := hbl.size
    have Hmr := Lib.hid (Hm1.out.later hbl)
    have Hlk := Lib.hid hlk
    clear hgr hbl hlk
    by_cases hlt : k < L.length
    · obtain ⟨g, off, hA, hg, hcell⟩ := Hr1.out.at hlt
      have r0 := (Hbl.out.cell (p := ⟨g, off + k * 1, none⟩) hg).trans (hcell 0 _ rfl)
      subst hA
      clear hcell
      rw [Nat.mul_one] at r0
      have hy := hys.out k hlt
      obtain ⟨y, Hy⟩ : ∃ y, Hid (L[k] = y) := ⟨_, Lib.hid rfl⟩
      rw [Hy.out] at r0 hy
      rcases SplT.cut_form 32 y.data.toList with hmiss | ⟨p, r, hyd, hp⟩
      · have hno : Hid (∀ l, ¬ TxtOf l s) := Lib.hid fun l h => by
          obtain ⟨h1, h2⟩ := h.rdI Hs.out
          obtain ⟨p, r, h3, _⟩ := h2 k hlt (by omega)
          rw [Hy.out] at h3
          exact hmiss (by rw [h3]; simp)
        have HC := Lib.hid (cutMiss_any y hmiss wr hy Hmr.out)
        clear hmiss
        go_upto_region 10 with (first | (go_at_call 90; refine HC.out.mono ?_; rintro e w2 ⟨rfl, hb2⟩; have Hb2 := Lib.hid (Hbl.out.trans (hb2.mono hzr)); have hz2 := hb2.size; clear hb2) | (go_at_call 91; refine (number_any y 4 _ (by omega) hy).mono ?_; rintro e w3 ⟨nr, nb, rfl, hnum, hb3⟩; have Hb3 := Lib.hid (Hb2.out.trans (hb3.mono (by omega))); clear hb3))
        go_wp2
        go_ret2
        exact rsNo hno.out rfl (Hb1.out.trans (Hb3.out.mono hz1))
      · have hpz : (⟨p.toArray⟩ : ByteArray).size ≤ 1048576 := by
          have h1 : p.length ≤ y.data.toList.length := by rw [hyd]; simp
          have h2 : y.data.toList.length = y.size := rfl
          show p.toArray.size ≤ _
          rw [List.size_toArray]; omega
        have HC := Lib.hid (cutHit_any y 32 p r hyd hp wr hy Hmr.out)
        have Hyd := Lib.hid hyd
        have Hp := Lib.hid hp
        clear hyd hp
        go_upto_region 10 with (first | (go_at_call 90; refine HC.out.mono ?_; rintro e w2 ⟨rfl, hb2⟩; have Hb2 := Lib.hid (Hbl.out.trans (hb2.mono hzr)); have HGr2 := Lib.hid (HGr.out.later hb2); have hz2 := hb2.size; clear hb2) | (go_at_call 91; refine (number_any ⟨p.toArray⟩ 4 _ (by omega) hpz).mono ?_; rintro e w3 ⟨nr, nb, rfl, hnum, hb3⟩; have Hb3 := Lib.hid (Hb2.out.trans (hb3.mono (by omega))); have HGr3 := Lib.hid (HGr2.out.later hb3); have hz3 := hb3.size; clear hb3))
        rcases hnum with ⟨rfl, hn, rfl⟩ | ⟨rfl, hn, rfl⟩
        · have hx : Hid (PartR LnI L (l ++ [⟨(numN ⟨p.toArray⟩ : Int), ⟨r.toArray⟩⟩])) := Lib.hid (hpt.out.snoc Hlk.out hlt ⟨p, r, by rw [Hy.out]; exact Hyd.out, Hp.out, hn, rfl, rfl⟩)
          have hl64 : l.length ≤ 64 := by have := Hlk.out; omega
          clear hn
          go_wp2_with (at_builtin; go_loud (refine wpList_push rfl (.tmp 50) (.tmp 54) 52 rfl w1.heap.size 108 _ 2 24 Spk.enc rfl Spoken_info rfl (by omega) u6 l [⟨(numN ⟨p.toArray⟩ : Int), ⟨r.toArray⟩⟩] 1 rfl rfl (by simp) HGr3.out rfl Spk_enc_len (Hone.out _ _) (by simp only [List.length_singleton]; omega) (by omega) (by omega) ?_); intro v' w2 hg2 hb2 _)
          go_roundw
          case rel => exact ⟨k + 1, _, by omega, by rw [List.length_append, Hlk.out]; rfl, by go_num, hx, hg2, Hb3.out.trans (hb2.mono (Nat.le_refl _))⟩
          case measure => simp [intOf]; omega
        · have hno : Hid (∀ l, ¬ TxtOf l s) := Lib.hid fun l h => by
            obtain ⟨h1, h2⟩ := h.rdI Hs.out
            obtain ⟨p', r', h3, h4, h5, _⟩ := h2 k hlt (by omega)
            rw [Hy.out, Hyd.out] at h3
            obtain ⟨rfl, rfl⟩ := at_first h3 Hp.out h4
            exact hn h5
          clear hn
          go_wp2
          go_ret2
          exact rsNo hno.out rfl (Hb1.out.trans (Hb3.out.mono hz1))
    · have hkL : l.length = L.length := by have := Hlk.out; omega
      have HkL := Lib.hid hkL
      have hl9 : l.length ≤ 1048576 := by omega
      obtain ⟨A', c', hv, ho⟩ := HGr.out.own Spk_enc_len
      have Ho := Lib.hid ho
      subst hv
      have HG := Lib.hid (goodSpoken_any l A' c' wr (ho.rd Spk_enc_len) hl9)
      clear ho hkL
      by_cases hgood : spokenLP l
      · have e3 := B_t hgood
        have hyes : Hid (TxtOf l s) := Lib.hid (TxtOf.ofI Hs.out HkL.out hpt.out.2 hgood)
        rw [e3] at HG
        clear hgood
        go_wp2_with (go_at_call 84; refine HG.out.mono ?_; rintro e w3 ⟨rfl, hb3⟩)
        go_ret2
        exact rsYes hyes.out rfl ((Ho.out.later hb3).mono hz1 hb3.size) (Hb1.out.trans ((Hbl.out.trans (hb3.mono hzr)).mono hz1))
      · have e3 := B_f hgood
        have hno : Hid (∀ l, ¬ TxtOf l s) := Lib.hid fun l' h => by
          obtain ⟨h1, h2⟩ := h.rdI Hs.out
          have := same_list (R := LnI) (fun _ _ _ => LnI.det) h1 HkL.out h2 hpt.out.2
          subst this
          exact hgood h.1
        rw [e3] at HG
        clear hgood
        go_wp2_with (go_at_call 84; refine HG.out.mono ?_; rintro e w3 ⟨rfl, hb3⟩)
        go_ret2
        exact rsNo hno.out rfl (Hb1.out.trans ((Hbl.out.trans (hb3.mono hzr)).mono hz1))

set_option maxHeartbeats 3200000 in
theorem sReadSpoken_any (s : ByteArray) (w : World) (hsz : s.size ≤ 1048576) : Calls Tryz.prog 29 #[.string s] w fun e w' => RsPost s w e w' := by
  obtain ⟨L, z, hs⟩ := split_two 10 s
  have Hs := Lib.hid hs
  have Hone : Hid (∀ (x : Int) (y : ByteArray), ∀ u ∈ [Value.int .i64 x, Value.string y], u.oneCell' = true) := Lib.hid (by intro x y u hu; simp at hu; rcases hu with rfl | rfl <;> rfl)
  have hL : (L ++ [z]).length = L.length + 1 := by simp
  have HLn : Hid (Calls Tryz.prog 92 #[.string s, .int .u8 10] w fun e w' => ∃ A cc, e = .returned (.slice A (L.length + 1) cc) ∧ L.length + 1 ≤ cc ∧ RdL w' w'.heap.size A 1 encString L ∧ Below w.heap.size w w') := Lib.hid (by
    refine (l1Split_any s 10 w hsz).mono ?_
    rintro e w' ⟨A, cc, rfl, hcc, ho, hb⟩
    rw [Hs.out] at hcc ho ⊢
    refine ⟨A, cc, by rw [hL], by rw [← hL]; exact hcc, ?_, hb⟩
    have := (ho.rd encString_len).firsts L.length
    simpa using this)
  have hys : Hid (∀ k (h : k < L.length), (L[k]'h).size ≤ 1048576) := Lib.hid fun k h => Nat.le_trans (piece_size (c := 10) (s := s) (by rw [Hs.out]; exact List.mem_append.2 (.inl (List.getElem_mem h)))) hsz
  have hLs : L.length ≤ 1048576 := by
    have h1 := (splitB_splitS 10 s).2
    have h2 : Lib.countB s ⟨#[10]⟩ = s.data.toList.count 10 := Lib.count_one 10 _
    have h3 : s.data.toList.count 10 ≤ s.data.toList.length := List.count_le_length
    have h4 : s.data.toList.length = s.size := rfl
    rw [hs, List.length_append] at h1
    simp at h1; omega
  clear hs hL
  go_enter Tryz.func29, Tryz.ntmps29
  go_wp2_with (go_at_call 92; refine HLn.out.mono ?_; rintro e w1 ⟨A, c, rfl, hcc, hr1, hb1⟩; have Hb1 := Lib.hid hb1; have Hr1 := Lib.hid hr1; have hz1 := hb1.size; clear hr1 hb1)
  go_loopw [5, 19] (fun v i wr => ∃ (k : Nat) (l : List Spk), k ≤ L.length ∧ l.length = k ∧ i = .int .i64 (k : Int) ∧ Hid (PartR LnS L l) ∧ Grow wr w1.heap.size 108 2 Spk.enc v l ∧ Below w1.heap.size w1 wr) (fun _ i _ => L.length - (intOf i).toNat)
  case atStart => exact ⟨0, [], by omega, rfl, by rfl, Lib.hid PartR.nil, Grow.nil, Below.refl _ _⟩
  case round =>
    obtain ⟨k, l, hk, hlk, rfl, hpt, hgr, hbl⟩ := hrel
    have HGr := Lib.hid hgr
    have Hbl := Lib.hid hbl
    have hzr := hbl.size
    have Hlk := Lib.hid hlk
    clear hgr hbl hlk
    by_cases hlt : k < L.length
    · obtain ⟨g, off, hA, hg, hcell⟩ := Hr1.out.at hlt
      have r0 := (Hbl.out.cell (p := ⟨g, off + k * 1, none⟩) hg).trans (hcell 0 _ rfl)
      subst hA
      clear hcell
      rw [Nat.mul_one] at r0
      have hy := hys.out k hlt
      obtain ⟨y, Hy⟩ : ∃ y, Hid (L[k] = y) := ⟨_, Lib.hid rfl⟩
      rw [Hy.out] at r0 hy
      by_cases h2 : (splitS 32 y).length = 2
      · obtain ⟨a, b, hab⟩ : ∃ a b, splitS 32 y = [a, b] := by
          match h : splitS 32 y, h2 with
          | [a, b], _ => exact ⟨a, b, rfl⟩
        have hx : Hid (PartR LnS L (l ++ [⟨readV a, b⟩])) := Lib.hid (hpt.out.snoc Hlk.out hlt ⟨a, b, by rw [Hy.out]; exact hab, rfl, rfl⟩)
        have ha : a.size ≤ 1048576 := Nat.le_trans (piece_size (c := 32) (s := y) (by rw [hab]; simp)) hy
        have HC : Hid (Calls Tryz.prog 92 #[.string y, .int .u8 32] wr fun e w' => ∃ g2 cc, e = .returned (.slice (some ⟨g2, 0, none⟩) 2 cc) ∧ g2 < w'.heap.size ∧ w'.cell? ⟨g2, 0, none⟩ = some (.string a) ∧ w'.cell? ⟨g2, 1, none⟩ = some (.string b) ∧ Below wr.heap.size wr w') := Lib.hid (by
          refine (l1Split_any y 32 wr hy).mono ?_
          rintro e w' ⟨A2, cc, rfl, hcc, ho, hb⟩
          rw [hab] at ho ⊢
          obtain ⟨g2, f, rfl, h3, h4, h5⟩ := ho.cells (by simp)
          have h6 := ho.rd encString_len
          obtain ⟨g3, off3, hA3, hg3, hc3⟩ := h6.at (k := 0) (by simp)
          obtain ⟨g4, off4, hA4, hg4, hc4⟩ := h6.at (k := 1) (by simp)
          injection hA3 with hA3; injection hA3 with q1 q2; subst q1 q2
          injection hA4 with hA4; injection hA4 with q1 q2; subst q1 q2
          exact ⟨g2, cc, rfl, hg3, by simpa using hc3 0 _ rfl, by simpa using hc4 0 _ rfl, hb⟩)
        have hl64 : l.length ≤ 1048576 := by have := Hlk.out; omega
        clear h2 hab
        go_upto_region 9 with (go_at_call 92; refine HC.out.mono ?_; rintro e w2 ⟨g2, c2, rfl, hg2, C0, C1, hb2⟩; have Hb2 := Lib.hid (Hbl.out.trans (hb2.mono hzr)); have hz2 := hb2.size; have HGr2 := Lib.hid (HGr.out.later hb2); clear hb2)
        have hz3 : w1.heap.size ≤ w2.heap.size := by omega
        have HGd : Hid (Grow w2.drew w1.heap.size 108 2 Spk.enc u5 l) := Lib.hid (HGr2.out.drewN 1)
        obtain ⟨R, HR⟩ : ∃ R, Hid (readV a = R) := ⟨_, Lib.hid rfl⟩
        have HN : Hid (Calls Tryz.prog 93 #[.string a] w2.drew fun e w' => ∃ v, e = .returned v ∧ (v = .int .i64 R ∧ Below w2.drew.heap.size w2.drew w')) := Lib.hid (by
          rw [← HR.out]; exact (l1Read_any a w2.drew ha).mono fun e w' h => ⟨_, h.1, rfl, h.2⟩)
        rw [HR.out] at hx
        go_region_law (first
          | (refine step_callsX (by rfl) 93 (by rfl) #[.string a] (by go_simp) HN.out ?_; rintro v w3 ⟨rfl, hb3⟩; have q1 := (hb3.cell (p := ⟨g2, 1, none⟩) hg2).trans C1; have HG3 := Lib.hid (HGd.out.later hb3); have hz4 : w1.heap.size ≤ w3.heap.size := Nat.le_trans hz3 hb3.size; have HB3 := Lib.hid (Hb2.out.drew.trans (hb3.mono hz3)); clear hb3)
          | (refine step_pushA rfl (.tmp 28) (.tmp 37) 52 rfl w1.heap.size 108 _ 2 24 Spk.enc rfl Spoken_info rfl (by omega) u5 l [⟨R, b⟩] 1 rfl rfl rfl HG3.out rfl Spk_enc_len (Hone.out _ _) (by simp) (by simp only [List.length_singleton]; omega) (by omega) (by omega) ?_; intro v' w4 hg4 hb4 hgb4 hk4; have HG4 := Lib.hid hg4; have HB4 := Lib.hid hb4; clear hg4 hb4 hgb4 hk4))
        all_goals
          go_wp2
          go_roundw
          case rel => exact ⟨k + 1, _, by omega, by rw [List.length_append, Hlk.out]; rfl, by go_num, hx, HG4.out, HB3.out.trans HB4.out⟩
          case measure => simp [intOf]; omega
      · have hno : Hid (∀ l, ¬ TxtOf l s) := Lib.hid fun l h => by
          obtain ⟨h1, h3⟩ := h.rdS Hs.out
          obtain ⟨a, b, h4, _⟩ := h3 k hlt (by omega)
          rw [Hy.out] at h4
          exact h2 (by rw [h4]; rfl)
        obtain ⟨m, hm⟩ : ∃ m, Hid ((splitS 32 y).length = m) := ⟨_, Lib.hid rfl⟩
        rw [hm.out] at h2
        have e4 : ((m : Int) == 2) = false := by simp; omega
        have HC := Lib.hid (l1Split_any y 32 wr hy)
        rw [hm.out] at HC
        clear h2
        go_wp2_with (go_at_call 92; refine HC.out.mono ?_; rintro e w2 ⟨A2, c2, rfl, hc2, ho2, hb2⟩; have Hb2 := Lib.hid (Hbl.out.trans (hb2.mono hzr)); clear hb2 ho2)
        go_ret2
        exact rsNo hno.out rfl (Hb1.out.trans (Hb2.out.mono hz1))
    · have hkL : l.length = L.length := by have := Hlk.out; omega
      have HkL := Lib.hid hkL
      have hl9 : l.length ≤ 1048576 := by omega
      obtain ⟨A', c', hv, ho⟩ := HGr.out.own Spk_enc_len
      have Ho := Lib.hid ho
      subst hv
      by_cases hgood : spokenLP l
      · have HG := Lib.hid (sSpokenText0_t l A' c' wr (ho.rd Spk_enc_len) hl9 hgood)
        have Hgood := Lib.hid hgood
        obtain ⟨X, hX⟩ : ∃ X, Hid (spkTo l l.length = X) := ⟨_, Lib.hid rfl⟩
        rw [hX.out] at HG
        clear ho hkL hgood
        by_cases hXs : X = s
        · have hyes : Hid (TxtOf l s) := Lib.hid ⟨Hgood.out, by rw [hX.out, hXs]⟩
          subst hXs
          go_wp2_with (go_at_call 26; refine HG.out.mono ?_; rintro e w3 ⟨rfl, hb3⟩)
          go_ret2
          exact rsYes hyes.out rfl ((Ho.out.later hb3).mono hz1 hb3.size) (Hb1.out.trans ((Hbl.out.trans (hb3.mono hzr)).mono hz1))
        · have hno : Hid (∀ l, ¬ TxtOf l s) := Lib.hid fun l' h => by
            obtain ⟨h1, h2⟩ := h.rdS Hs.out
            have := same_list (R := LnS) (fun _ _ _ => LnS.det) h1 HkL.out h2 hpt.out.2
            subst this
            exact hXs (hX.out.symm.trans h.2)
          have e5 : (X.toList == s.toList) = false := by
            refine beq_eq_false_iff_ne.2 fun e => hXs ?_
            rw [ByteArray.toList_eq, ByteArray.toList_eq] at e
            exact bytes_ext e
          clear hXs
          go_wp2_with (go_at_call 26; refine HG.out.mono ?_; rintro e w3 ⟨rfl, hb3⟩)
          go_ret2
          exact rsNo hno.out rfl (Hb1.out.trans ((Hbl.out.trans (hb3.mono hzr)).mono hz1))
      · have HG := Lib.hid (sSpokenText_f l A' c' wr (ho.rd Spk_enc_len) hl9 hgood)
        have hno : Hid (∀ l, ¬ TxtOf l s) := Lib.hid fun l' h => by
          obtain ⟨h1, h2⟩ := h.rdS Hs.out
          have := same_list (R := LnS) (fun _ _ _ => LnS.det) h1 HkL.out h2 hpt.out.2
          subst this
          exact hgood h.1
        clear ho hkL hgood
        go_wp2_with (go_at_call 26; refine HG.out.mono ?_; rintro e w3 ⟨rfl, hb3⟩)
        go_ret2
        exact rsNo hno.out rfl (Hb1.out.trans ((Hbl.out.trans (hb3.mono hzr)).mono hz1))
end Go.Proofs.YtkegbbndmfnolaaGreatDoor

/-
  The reader of choices: rows, texts that are spoilt.
-/
namespace Go.Proofs.YtkegbbndmfnolaaGreatDoor
open Go.RowKit
set_option linter.unusedVariables false
set_option linter.unusedSimpArgs false
set_option maxRecDepth 100000

def fct : Nat → Nat
  | 0 => 1
  | n + 1 => (n + 1) * fct n
def strLen : Value → Nat
  | .string s => s.size
  | _ => 0
set_option maxHeartbeats 3200000 in
theorem spoilt_any (g K : Nat) (t wi : ByteArray) (w : World) (h : Cur w g K) (hK : K ≤ 10000000) (ht : t.size ≤ 900000) (hw0 : 0 < wi.size) (hw : wi.size ≤ 1000) :
    Calls Tryz.prog 88 #[.pointer (some ⟨g, 0, none⟩), .string t, .string wi] w fun e w' => ∃ s : ByteArray, e = .returned (.string s) ∧ s.size ≤ t.size + 2 ∧ Cur w' g (K + 30) ∧ Turn g w w' := by
  have H := Lib.hid h
  clear h
  go_enter Tryz.func88, Tryz.ntmps88
  go_wp2_with (go_at_call 53; refine (pick_any g K 2 _ H.out (by omega) (by omega)).mono ?_; rintro e w1 ⟨x, rfl, hx0, hx1, hc, ht⟩; have HC := Lib.hid hc; have HT := Lib.hid ht; clear hc ht; obtain ⟨k0, rfl⟩ : ∃ k : Nat, x = (k : Int) := ⟨x.toNat, by omega⟩; have hk0 : k0 ≤ 1 := (by omega); have hk0e : (1 : Int) + (k0 : Int) = ((k0 + 1 : Nat) : Int) := (by omega))
  go_loopw [1, 7, 8, 9] (fun a b _ _ wr => ∃ (q : Nat) (tt : ByteArray), q ≤ 2 ∧ a = .string tt ∧ b = .int .i64 q ∧ tt.size + q ≤ t.size + 2 ∧ Cur wr g (K + 20 - 8 * q) ∧ Turn g w wr) (fun _ b _ _ _ => (intOf b).toNat)
  case atStart => exact ⟨k0 + 1, t, by omega, by rfl, by go_num, by omega, HC.out.more (by omega), HT.out⟩
  case round =>
    obtain ⟨q, tt, hq, rfl, rfl, hts, hcur, htn⟩ := hrel
    have Hc := Lib.hid hcur
    have Ht := Lib.hid htn
    clear hcur htn HC HT
    by_cases h1 : 0 < q
    · obtain ⟨p, rfl⟩ : ∃ p, q = p + 1 := ⟨q - 1, by omega⟩
      have hd1 : decide (0 < (p : Int) + 1) = true := decide_eq_true (by omega)
      by_cases h2 : 0 < tt.size
      · have hd2 : decide (0 < tt.size) = true := decide_eq_true h2
        have hlt := Hc.out.lt
        go_upto_region 5 with (go_at_call 53; refine (pick_any g _ (tt.size : Int) _ Hc.out (by omega) (by omega)).mono ?_; rintro e w2 ⟨x2, rfl, hx20, hx21, hc, ht⟩; have HC2 := Lib.hid hc; have HT2 := Lib.hid (Ht.out.trans ht); clear hc ht)
        obtain ⟨i, rfl⟩ : ∃ i : Nat, x2 = (i : Int) := ⟨x2.toNat, by omega⟩
        have hi : i < tt.size := by omega
        have hii : (i : Int) < (tt.size : Int) := by omega
        go_upto_region 6 with (go_at_call 53; refine (pick_any g _ (wi.size : Int) _ HC2.out (by omega) (by omega)).mono ?_; rintro e w3 ⟨x3, rfl, hx30, hx31, hc, ht⟩; have HC3 := Lib.hid hc; have HT3 := Lib.hid (HT2.out.trans ht); clear hc ht; obtain ⟨i3, rfl⟩ : ∃ i : Nat, x3 = (i : Int) := ⟨x3.toNat, by omega⟩; have hi3 : i3 < wi.size := (by omega); have hi3i : (i3 : Int) < (wi.size : Int) := (by omega))
        have hb3 : Below w3.heap.size w3 (w3.alloc (.cells #[.int .u8 (bat wi i3)] 5)) := (Below.refl _ _).alloc (Nat.le_refl _) _
        have HC4 := Lib.hid (HC3.out.later hb3)
        have HT4 := Lib.hid (HT3.out.then hb3)
        generalize w3.alloc (.cells #[.int .u8 (bat wi i3)] 5) = w4 at *
        obtain ⟨W1, hW1⟩ : ∃ W1, Hid (mkS [bat wi i3] = W1) := ⟨_, Lib.hid rfl⟩
        have hW1s : W1.size = 1 := by rw [← hW1.out, size_mkS]; rfl
        rw [hW1.out]
        have hse1 : (tt.extract 0 i).size = i := by simp only [size_ext]; omega
        have hse2 : (tt.extract i tt.size).size = tt.size - i := by simp only [size_ext]; omega
        have hse3 : (tt.extract (i + 1) tt.size).size = tt.size - (i + 1) := by simp only [size_ext]; omega
        have hi1 : (i : Int) + 1 ≤ (tt.size : Int) := by omega
        have hi0 : (i : Int) ≤ (tt.size : Int) := by omega
        have hts9 : tt.size ≤ 900002 := by omega
        clear HC2 HC3 HT2 HT3
        go_upto_region 8 with (go_at_call 53; refine (pick_any g _ 3 _ HC4.out (by omega) (by omega)).mono ?_; rintro e w5 ⟨x5, rfl, hx50, hx51, hc, ht⟩; have HC5 := Lib.hid hc; have HT5 := Lib.hid (HT4.out.trans ht); clear hc ht)
        by_cases e0 : x5 = 0
        · have d0 : (x5 == 0) = true := beq_iff_eq.2 e0
          clear e0
          go_wp2
          go_quiet (fail)
          go_wp2
          go_roundw
          case rel => exact ⟨p, _, by omega, by rfl, by go_num, by simp only [size_app, hse1, hse2, hW1s]; omega, (HC5.out.later (below_drewN (Below.refl _ _) _)).more (by omega), HT5.out.then (below_drewN (Below.refl _ _) _)⟩
          case measure => simp [intOf]
        · have d0 : (x5 == 0) = false := beq_eq_false_iff_ne.2 e0
          by_cases e1 : x5 = 1
          · have d1 : (x5 == 1) = true := beq_iff_eq.2 e1
            clear e0 e1
            go_wp2
            go_quiet (fail)
            go_wp2
            go_roundw
            case rel => exact ⟨p, _, by omega, by rfl, by go_num, by simp only [size_app, hse1, hse3, hW1s]; omega, (HC5.out.later (below_drewN (Below.refl _ _) _)).more (by omega), HT5.out.then (below_drewN (Below.refl _ _) _)⟩
            case measure => simp [intOf]
          · have d1 : (x5 == 1) = false := beq_eq_false_iff_ne.2 e1
            clear e0 e1
            go_wp2
            go_quiet (fail)
            go_wp2
            go_roundw
            case rel => exact ⟨p, _, by omega, by rfl, by go_num, by simp only [size_app, hse1, hse3]; omega, (HC5.out.later (below_drewN (Below.refl _ _) _)).more (by omega), HT5.out.then (below_drewN (Below.refl _ _) _)⟩
            case measure => simp [intOf]
      · have hd2 : decide (0 < tt.size) = false := decide_eq_false h2
        go_wp2
        go_ret
        exact ⟨tt, rfl, by omega, Hc.out.more (by omega), Ht.out⟩
    · obtain rfl : q = 0 := by omega
      go_wp2
      go_ret
      exact ⟨tt, rfl, by omega, Hc.out.more (by omega), Ht.out⟩
end Go.Proofs.YtkegbbndmfnolaaGreatDoor

/-
  A reader of the rest of a list of bytes.
-/
namespace Go.Proofs.YtkegbbndmfnolaaGreatDoor
open Go.RowKit
set_option linter.unusedVariables false
set_option linter.unusedSimpArgs false

theorem RdL.takeN {α : Type} {w : World} {b : Nat} {A : Option Addr} {size : Nat} {enc : α → List Value} {l : List α} (h : RdL w b A size enc l) (m : Nat) : RdL w b A size enc (l.take m) := by
  rcases h with h | ⟨g, off, hA, hg, hc⟩
  · exact .inl (by subst h; simp)
  · refine .inr ⟨g, off, hA, hg, fun i hi j u hu => hc i (by simp at hi; omega) j u ?_⟩
    rw [List.getElem_take] at hu; exact hu
theorem RdL.drop {α : Type} {w : World} {b : Nat} {A : Option Addr} {size : Nat} {enc : α → List Value} {l : List α} (h : RdL w b A size enc l) (k : Nat) : RdL w b (Option.map (fun x => x.add (k * size)) A) size enc (l.drop k) := by
  rcases h with h | ⟨g, off, rfl, hg, hc⟩
  · exact .inl (by subst h; simp)
  · refine .inr ⟨g, off + k * size, ?_, hg, fun i hi j u hu => ?_⟩
    · simp only [Option.map_some]; unfold Addr.add; split <;> simp_all
    · have hk : k + i < l.length := by simp at hi; omega
      have := hc (k + i) hk j u (by rw [List.getElem_drop] at hu; exact hu)
      rw [show off + k * size + (i * size + j) = off + ((k + i) * size + j) by rw [Nat.add_mul]; omega]
      exact this
/-- A reader of the rest of a list of bytes. -/
theorem Cur.rest {w : World} {A : Option Addr} {l : List Int} (h : RdL w w.heap.size A 1 encByte l) (hb : ∀ x ∈ l, 0 ≤ x ∧ x < 256) (hl : l.length ≤ 9223372036854775807) (k c c' : Nat) (t : TypeId) :
    Cur (w.alloc (.cells #[.slice (if c = k then A else Option.map (fun x => x.add k) A) (l.length - k) c', .int .i64 0, .int .u64 0] t)) w.heap.size 0 := by
  by_cases hc : c = k
  · rw [if_pos hc]
    have := Cur.new (c := c') (h.takeN (l.length - k)) (fun x hx => hb x (List.mem_of_mem_take hx)) (by simp; omega) t
    rw [List.length_take, Nat.min_eq_left (by omega)] at this
    exact this
  · rw [if_neg hc]
    have h2 := h.drop k
    rw [Nat.mul_one] at h2
    have := Cur.new (c := c') h2 (fun x hx => hb x (List.mem_of_mem_drop hx)) (by simp; omega) t
    rw [List.length_drop] at this
    exact this
end Go.Proofs.YtkegbbndmfnolaaGreatDoor
