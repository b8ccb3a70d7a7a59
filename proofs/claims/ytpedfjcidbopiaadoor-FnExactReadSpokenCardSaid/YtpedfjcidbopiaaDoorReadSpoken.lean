/-
  ReadSpoken: walks of both sides.
-/
import Derived.Test.YtpedfjcidbopiaaDoorReadP
import Derived.Test.YtpedfjcidbopiaaDoorShelf
import Derived.Test.YtpedfjcidbopiaaDoorQuiet
import Derived.Test.YtpedfjcidbopiaaDoorGrowA
namespace Go.Proofs.YtpedfjcidbopiaaDoor
open Go.RowKit
set_option linter.unusedVariables false
set_option linter.unusedSimpArgs false
set_option maxRecDepth 100000

theorem RdL.firsts {α : Type} {w : World} {b : Nat} {A : Option Addr} {size : Nat} {enc : α → List Value} {l : List α} (h : RdL w b A size enc l) (m : Nat) : RdL w b A size enc (l.take m) := by
  rcases h with h | ⟨g, off, hA, hg, hc⟩
  · exact .inl (by subst h; simp)
  · refine .inr ⟨g, off, hA, hg, fun i hi j u hu => hc i (by simp at hi; omega) j u ?_⟩
    simpa using hu
/-- The library's variable MaxLen holds a number. -/
def Mlen (w : World) : Prop := ∃ m, w.cell? ⟨0, 0, none⟩ = some (.int .i64 m)
theorem Mlen.later {w w' : World} (h : Mlen w) (hb : Below w.heap.size w w') : Mlen w' := by
  obtain ⟨m, hm⟩ := h
  exact ⟨m, (hb.cell (World.block_lt_of_cell? _ _ hm)).trans hm⟩
theorem cut_len (c : UInt8) : ∀ s : List UInt8, (SplT.cutAt c s).length = s.count c + 1
  | [] => rfl
  | x :: r => by
    have ih := cut_len c r
    unfold SplT.cutAt
    split
    · rename_i h; subst h; simp [ih]
    · rename_i h
      rw [List.count_cons_of_ne (by simpa using h), ← ih]
      cases hc : SplT.cutAt c r with
      | nil => exact absurd hc (SplT.cutAt_ne c r)
      | cons p q => simp
theorem splitB_splitS (c : UInt8) (s : ByteArray) : Lib.splitB ⟨#[c]⟩ 0 (Lib.countB s ⟨#[c]⟩) s = splitS c s ∧ Lib.countB s ⟨#[c]⟩ + 1 = (splitS c s).length := by
  have e : Lib.countB s ⟨#[c]⟩ = s.data.toList.count c := Lib.count_one c _
  refine ⟨?_, by rw [e]; unfold splitS; rw [List.length_map, cut_len]⟩
  have h := Lib.splitB_data ⟨#[c]⟩ 0 (Lib.countB s ⟨#[c]⟩) s
  have h2 := SplT.split_cut c (Lib.countB s ⟨#[c]⟩) s.data.toList e.symm
  unfold splitS
  rw [← h2]
  have h3 : (Lib.splitB ⟨#[c]⟩ 0 (Lib.countB s ⟨#[c]⟩) s).map (fun b : ByteArray => b.data.toList) = Lib.splitK [c] 0 (Lib.countB s ⟨#[c]⟩) s.data.toList := h
  rw [← h3, List.map_map]
  conv => lhs; rw [← List.map_id (Lib.splitB ⟨#[c]⟩ 0 (Lib.countB s ⟨#[c]⟩) s)]
  exact List.map_congr_left fun x _ => bytes_ext (by simp)
theorem split10_any (s : ByteArray) (w : World) (hsz : s.size ≤ 1048576) (hm : Mlen w) :
    Calls Tryd.prog 111 #[.string s, .string ⟨#[10]⟩] w fun e w' => e = .returned (.slice (some ⟨w.heap.size, 0, none⟩) (splitS 10 s).length (splitS 10 s).length) ∧ RdL w' w'.heap.size (some ⟨w.heap.size, 0, none⟩) 1 encString (splitS 10 s) ∧ Below w.heap.size w w' := by
  obtain ⟨m, hm⟩ := hm
  refine (Tryd.strings_Split s ⟨#[10]⟩ m w (by omega) hm (by decide)).mono ?_
  rintro e w' ⟨rfl, rfl⟩
  obtain ⟨e1, e2⟩ := splitB_splitS 10 s
  refine ⟨by rw [e2], ?_, (Below.refl _ _).alloc (Nat.le_refl _) _⟩
  rw [e1]
  refine .inr ⟨w.heap.size, 0, rfl, by simp, fun i hi j u hu => ?_⟩
  rw [World.cell?_alloc_new]
  have hj : j = 0 := by
    have := (List.getElem?_eq_some_iff.1 hu).1
    simp [encString] at this; omega
  subst hj
  simp [encString] at hu
  subst hu
  simp [hi]
set_option maxHeartbeats 1600000 in
theorem linesOf_any (s : ByteArray) (L : List ByteArray) (z : ByteArray) (hs : splitS 10 s = L ++ [z]) (w : World) (hsz : s.size ≤ 1048576) (hm : Mlen w) :
    Calls Tryd.prog 68 #[.string s] w fun e w' => ∃ A c, e = .returned (.tuple #[.slice A L.length c, .bool (B (z = ⟨#[]⟩))]) ∧ RdL w' w'.heap.size A 1 encString L ∧ Below w.heap.size w w' := by
  have hlen : L.length < 2 ^ 60 := by
    have h1 := (splitB_splitS 10 s).2
    have h2 : Lib.countB s ⟨#[10]⟩ = s.data.toList.count 10 := Lib.count_one 10 _
    have h3 : s.data.toList.count 10 ≤ s.data.toList.length := List.count_le_length
    have h4 : s.data.toList.length = s.size := rfl
    rw [hs, List.length_append] at h1
    simp at h1; omega
  have HS := Lib.hid (split10_any s w hsz hm)
  rw [hs] at HS
  have hL : (L ++ [z]).length = L.length + 1 := by simp
  rw [hL] at HS
  clear hs hsz hm hL
  go_enter Tryd.func68, Tryd.ntmps68
  go_upto_region 3 with (go_at_call 111; refine HS.out.mono ?_; rintro e w1 ⟨rfl, hr1, hb1⟩; have Hb1 := Lib.hid hb1; have Hr1 := Lib.hid hr1; have hz1 := hb1.size; clear hr1 hb1)
  have C : w1.cell? ⟨w.heap.size, L.length, none⟩ = some (.string z) := by
    rcases Hr1.out with h | ⟨g, off, hA, hg, hc⟩
    · simp at h
    · injection hA with hA; injection hA with h1 h2; subst h1 h2
      have := hc L.length (by simp) 0 (.string z) (by simp [encString])
      simpa using this
  have Hr2 : Hid (RdL w1 w1.heap.size (some ⟨w.heap.size, 0, none⟩) 1 encString L) := Lib.hid (by
    have := (Hr1.out).firsts L.length
    simpa using this)
  have e1 : B (z = ⟨#[]⟩) = z.toList.isEmpty := by
    rw [ByteArray.toList_eq]
    by_cases hz : z = ⟨#[]⟩
    · rw [B_t hz]; subst hz; rfl
    · rw [B_f hz]
      cases h : z.data.toList with
      | nil => exact absurd (bytes_ext (by rw [h])) hz
      | cons a b => rfl
  go_quiet (fail)
  go_wp2
  go_ret2
  exact ⟨some ⟨w.heap.size, 0, none⟩, L.length + 1, by rw [e1]; rfl, Hr2.out, below_drewN Hb1.out _⟩
theorem piece_len {c : UInt8} : ∀ (s p : List UInt8), p ∈ SplT.cutAt c s → p.length ≤ s.length
  | [], p, h => by simp [SplT.cutAt] at h; subst h; simp
  | x :: r, p, h => by
    unfold SplT.cutAt at h
    split at h
    · rcases List.mem_cons.1 h with rfl | h
      · simp
      · have := piece_len r p h; simp; omega
    · cases hc : SplT.cutAt c r with
      | nil => exact absurd hc (SplT.cutAt_ne c r)
      | cons q l =>
        rw [hc] at h
        simp only at h
        rcases List.mem_cons.1 h with rfl | h
        · have := piece_len r q (by rw [hc]; simp); simp; omega
        · have := piece_len r p (by rw [hc]; simp [h]); simp; omega
theorem piece_size {c : UInt8} {s p : ByteArray} (h : p ∈ splitS c s) : p.size ≤ s.size := by
  unfold splitS at h
  obtain ⟨l, hl, rfl⟩ := List.mem_map.1 h
  have := piece_len _ _ hl
  show l.toArray.size ≤ _
  rw [List.size_toArray]; exact this
/-- Lines read so far. -/
def PartR (R : ByteArray → Spk → Prop) (L : List ByteArray) (l : List Spk) : Prop := l.length ≤ L.length ∧ ∀ i (h1 : i < L.length) (h2 : i < l.length), R L[i] l[i]
theorem PartR.nil {R : ByteArray → Spk → Prop} {L : List ByteArray} : PartR R L [] := ⟨by simp, fun i _ h => by simp at h⟩
theorem PartR.snoc {R : ByteArray → Spk → Prop} {L : List ByteArray} {l : List Spk} (h : PartR R L l) {k : Nat} (hk : l.length = k) (hlt : k < L.length) {x : Spk} (hx : R (L[k]'hlt) x) : PartR R L (l ++ [x]) := by
  subst hk
  refine ⟨by simp; omega, fun i h1 h2 => ?_⟩
  by_cases hi : i < l.length
  · rw [List.getElem_append_left hi]; exact h.2 i h1 hi
  · have : i = l.length := by simp at h2; omega
    subst this
    rw [List.getElem_append_right (Nat.le_refl _)]
    simpa using hx
def RsPost (s : ByteArray) (w : World) (e : Ending) (w' : World) : Prop :=
  ((∃ l A c, TxtOf l s ∧ e = .returned (.tuple #[.slice A l.length c, .bool true]) ∧ OwnL w' w.heap.size w'.heap.size A 2 Spk.enc l) ∨ ((∀ l, ¬ TxtOf l s) ∧ e = .returned (.tuple #[.slice none 0 0, .bool false]))) ∧ Below w.heap.size w w'
theorem rsNo {s : ByteArray} {w w' : World} {e : Ending} (h : ∀ l, ¬ TxtOf l s) (he : e = .returned (.tuple #[.slice none 0 0, .bool false])) (hb : Below w.heap.size w w') : RsPost s w e w' := ⟨.inr ⟨h, he⟩, hb⟩
theorem rsYes {s : ByteArray} {w w' : World} {e : Ending} {l : List Spk} {A : Option Addr} {c : Nat} (h : TxtOf l s) (he : e = .returned (.tuple #[.slice A l.length c, .bool true])) (ho : OwnL w' w.heap.size w'.heap.size A 2 Spk.enc l) (hb : Below w.heap.size w w') : RsPost s w e w' := ⟨.inl ⟨l, A, c, h, he, ho⟩, hb⟩
theorem cut_hit (y : ByteArray) {p r : List UInt8} (hy : y.data.toList = p ++ 32 :: r) (hp : (32 : UInt8) ∉ p) : Lib.cut y.data.toList (⟨#[32]⟩ : ByteArray).data.toList = (p, r, true) := by
  rw [hy]; exact SplT.lib_cut_hit hp
theorem cut_miss (y : ByteArray) (hy : (32 : UInt8) ∉ y.data.toList) : Lib.cut y.data.toList (⟨#[32]⟩ : ByteArray).data.toList = (y.data.toList, [], false) := SplT.lib_cut_no hy
theorem cutHit_any (y : ByteArray) (p r : List UInt8) (hy : y.data.toList = p ++ 32 :: r) (hp : (32 : UInt8) ∉ p) (w : World) (hsz : y.size ≤ 1048576) (hm : Mlen w) :
    Calls Tryd.prog 69 #[.string y, .string ⟨#[32]⟩] w fun e w' => e = .returned (.tuple #[.string ⟨p.toArray⟩, .string ⟨r.toArray⟩, .bool true]) ∧ Below w.heap.size w w' := by
  obtain ⟨m, hm⟩ := hm
  refine (Tryd.strings_Cut y ⟨#[32]⟩ m w (by omega) hm).mono ?_
  rintro e w' ⟨rfl, n, rfl⟩
  rw [cut_hit y hy hp]
  exact ⟨rfl, below_drewN (Below.refl _ _) _⟩
theorem cutMiss_any (y : ByteArray) (hy : (32 : UInt8) ∉ y.data.toList) (w : World) (hsz : y.size ≤ 1048576) (hm : Mlen w) :
    Calls Tryd.prog 69 #[.string y, .string ⟨#[32]⟩] w fun e w' => e = .returned (.tuple #[.string y, .string ⟨#[]⟩, .bool false]) ∧ Below w.heap.size w w' := by
  obtain ⟨m, hm⟩ := hm
  refine (Tryd.strings_Cut y ⟨#[32]⟩ m w (by omega) hm).mono ?_
  rintro e w' ⟨rfl, n, rfl⟩
  rw [cut_miss y hy]
  exact ⟨rfl, below_drewN (Below.refl _ _) _⟩

set_option maxHeartbeats 3200000 in
theorem iReadSpoken_any (s : ByteArray) (w : World) (hsz : s.size ≤ 1048576) (hm : Mlen w) : Calls Tryd.prog 20 #[.string s] w fun e w' => RsPost s w e w' := by
  obtain ⟨L, z, hs⟩ := split_two 10 s
  have Hs := Lib.hid hs
  have Hm := Lib.hid hm
  have Hone : Hid (∀ (x : Int) (y : ByteArray), ∀ u ∈ [Value.int .i64 x, Value.string y], u.oneCell' = true) := Lib.hid (by intro x y u hu; simp at hu; rcases hu with rfl | rfl <;> rfl)
  have HLn := Lib.hid (linesOf_any s L z hs w hsz hm)
  clear hs hm
  go_enter Tryd.func20, Tryd.ntmps20
  go_upto_region 2 with (go_at_call 68; refine HLn.out.mono ?_; rintro e w1 ⟨A, c, rfl, hr1, hb1⟩; have Hb1 := Lib.hid hb1; have Hr1 := Lib.hid hr1; have hz1 := hb1.size; clear hr1 hb1)
  by_cases hz : z = ⟨#[]⟩
  rotate_left
  · have e1 := B_f hz
    have hno : Hid (∀ l, ¬ TxtOf l s) := Lib.hid fun l h => hz (h.two Hs.out).2
    clear hz
    go_wp2
    go_ret2
    exact rsNo hno.out rfl Hb1.out
  have e1 := B_t hz
  subst hz
  by_cases hlen : 63 < L.length
  · have hno : Hid (∀ l, ¬ TxtOf l s) := Lib.hid fun l h => by
      have h1 := (h.rdI Hs.out).1
      have h2 : l.length ≤ 63 := h.1.1
      omega
    have e2 : decide ((63 : Int) < (L.length : Int)) = true := by simp; omega
    go_wp2
    go_ret2
    exact rsNo hno.out rfl Hb1.out
  have e2 : decide ((63 : Int) < (L.length : Int)) = false := by simp; omega
  have hys : Hid (∀ k (h : k < L.length), (L[k]'h).size ≤ 1048576) := Lib.hid fun k h => Nat.le_trans (piece_size (c := 10) (s := s) (by rw [Hs.out]; exact List.mem_append.2 (.inl (List.getElem_mem h)))) hsz
  have Hm1 := Lib.hid (Hm.out.later Hb1.out)
  have hl63 : L.length ≤ 63 := by omega
  clear hlen
  go_wp2
  go_loopw [6, 29] (fun v i wr => ∃ (k : Nat) (l : List Spk), k ≤ L.length ∧ l.length = k ∧ i = .int .i64 (k : Int) ∧ Hid (PartR LnI L l) ∧ Grow wr w1.heap.size 97 2 Spk.enc v l ∧ Below w1.heap.size w1 wr) (fun _ i _ => L.length - (intOf i).toNat)
  case atStart => exact ⟨0, [], by omega, rfl, by rfl, Lib.hid PartR.nil, Grow.empty (Nat.le_refl _), (Below.refl _ _).alloc (Nat.le_refl _) _⟩
  case round =>
    obtain ⟨k, l, hk, hlk, rfl, hpt, hgr, hbl⟩ := hrel
    have HGr := Lib.hid hgr
    have Hbl := Lib.hid hbl
    have hzr := hbl.size
    have Hmr := Lib.hid (Hm1.out.later hbl)
    have Hlk := Lib.hid hlk
    clear hgr hbl hlk
    by_cases hlt : k < L.length
    · obtain ⟨g, off, hA, hg, hcell⟩ := Hr1.out.at hlt
      have r0 := (Hbl.out.cell (p := ⟨g, off + k * 1, none⟩) hg).trans (hcell 0 _ rfl)
      subst hA
      clear hcell
      rw [Nat.mul_one] at r0
      have hy := hys.out k hlt
      obtain ⟨y, Hy⟩ : ∃ y, Hid (L[k] = y) := ⟨_, Lib.hid rfl⟩
      rw [Hy.out] at r0 hy
      rcases SplT.cut_form 32 y.data.toList with hmiss | ⟨p, r, hyd, hp⟩
      · have hno : Hid (∀ l, ¬ TxtOf l s) := Lib.hid fun l h => by
          obtain ⟨h1, h2⟩ := h.rdI Hs.out
          obtain ⟨p, r, h3, _⟩ := h2 k hlt (by omega)
          rw [Hy.out] at h3
          exact hmiss (by rw [h3]; simp)
        have HC := Lib.hid (cutMiss_any y hmiss wr hy Hmr.out)
        clear hmiss
        go_upto_region 10 with (first | (go_at_call 69; refine HC.out.mono ?_; rintro e w2 ⟨rfl, hb2⟩; have Hb2 := Lib.hid (Hbl.out.trans (hb2.mono hzr)); have hz2 := hb2.size; clear hb2) | (go_at_call 70; refine (number_any y 4 _ (by omega) hy).mono ?_; rintro e w3 ⟨nr, nb, rfl, hnum, hb3⟩; have Hb3 := Lib.hid (Hb2.out.trans (hb3.mono (by omega))); clear hb3))
        go_wp2
        go_ret2
        exact rsNo hno.out rfl (Hb1.out.trans (Hb3.out.mono hz1))
      · have hpz : (⟨p.toArray⟩ : ByteArray).size ≤ 1048576 := by
          have h1 : p.length ≤ y.data.toList.length := by rw [hyd]; simp
          have h2 : y.data.toList.length = y.size := rfl
          show p.toArray.size ≤ _
          rw [List.size_toArray]; omega
        have HC := Lib.hid (cutHit_any y p r hyd hp wr hy Hmr.out)
        have Hyd := Lib.hid hyd
        have Hp := Lib.hid hp
        clear hyd hp
        go_upto_region 10 with (first | (go_at_call 69; refine HC.out.mono ?_; rintro e w2 ⟨rfl, hb2⟩; have Hb2 := Lib.hid (Hbl.out.trans (hb2.mono hzr)); have HGr2 := Lib.hid (HGr.out.later hb2); have hz2 := hb2.size; clear hb2) | (go_at_call 70; refine (number_any ⟨p.toArray⟩ 4 _ (by omega) hpz).mono ?_; rintro e w3 ⟨nr, nb, rfl, hnum, hb3⟩; have Hb3 := Lib.hid (Hb2.out.trans (hb3.mono (by omega))); have HGr3 := Lib.hid (HGr2.out.later hb3); have hz3 := hb3.size; clear hb3))
        rcases hnum with ⟨rfl, hn, rfl⟩ | ⟨rfl, hn, rfl⟩
        · have hx : Hid (PartR LnI L (l ++ [⟨(numN ⟨p.toArray⟩ : Int), ⟨r.toArray⟩⟩])) := Lib.hid (hpt.out.snoc Hlk.out hlt ⟨p, r, by rw [Hy.out]; exact Hyd.out, Hp.out, hn, rfl, rfl⟩)
          have hl64 : l.length ≤ 64 := by have := Hlk.out; omega
          clear hn
          go_wp2_with (at_builtin; go_loud (refine wpList_push rfl (.tmp 50) (.tmp 54) 26 rfl w1.heap.size 97 _ 2 24 Spk.enc rfl Spoken_info rfl (by omega) u6 l [⟨(numN ⟨p.toArray⟩ : Int), ⟨r.toArray⟩⟩] 1 rfl rfl (by simp) HGr3.out rfl Spk_enc_len (Hone.out _ _) (by simp only [List.length_singleton]; omega) (by omega) (by omega) ?_); intro v' w2 hg2 hb2 _)
          go_roundw
          case rel => exact ⟨k + 1, _, by omega, by rw [List.length_append, Hlk.out]; rfl, by go_num, hx, hg2, Hb3.out.trans (hb2.mono (Nat.le_refl _))⟩
          case measure => simp [intOf]; omega
        · have hno : Hid (∀ l, ¬ TxtOf l s) := Lib.hid fun l h => by
            obtain ⟨h1, h2⟩ := h.rdI Hs.out
            obtain ⟨p', r', h3, h4, h5, _⟩ := h2 k hlt (by omega)
            rw [Hy.out, Hyd.out] at h3
            obtain ⟨rfl, rfl⟩ := at_first h3 Hp.out h4
            exact hn h5
          clear hn
          go_wp2
          go_ret2
          exact rsNo hno.out rfl (Hb1.out.trans (Hb3.out.mono hz1))
    · have hkL : l.length = L.length := by have := Hlk.out; omega
      have HkL := Lib.hid hkL
      have hl9 : l.length ≤ 1048576 := by omega
      obtain ⟨A', c', hv, ho⟩ := HGr.out.own Spk_enc_len
      have Ho := Lib.hid ho
      subst hv
      have HG := Lib.hid (goodSpoken_any l A' c' wr (ho.rd Spk_enc_len) hl9)
      clear ho hkL
      by_cases hgood : spokenLP l
      · have e3 := B_t hgood
        have hyes : Hid (TxtOf l s) := Lib.hid (TxtOf.ofI Hs.out HkL.out hpt.out.2 hgood)
        rw [e3] at HG
        clear hgood
        go_wp2_with (go_at_call 59; refine HG.out.mono ?_; rintro e w3 ⟨rfl, hb3⟩)
        go_ret2
        exact rsYes hyes.out rfl ((Ho.out.later hb3).mono hz1 hb3.size) (Hb1.out.trans ((Hbl.out.trans (hb3.mono hzr)).mono hz1))
      · have e3 := B_f hgood
        have hno : Hid (∀ l, ¬ TxtOf l s) := Lib.hid fun l' h => by
          obtain ⟨h1, h2⟩ := h.rdI Hs.out
          have := same_list (R := LnI) (fun _ _ _ => LnI.det) h1 HkL.out h2 hpt.out.2
          subst this
          exact hgood h.1
        rw [e3] at HG
        clear hgood
        go_wp2_with (go_at_call 59; refine HG.out.mono ?_; rintro e w3 ⟨rfl, hb3⟩)
        go_ret2
        exact rsNo hno.out rfl (Hb1.out.trans ((Hbl.out.trans (hb3.mono hzr)).mono hz1))

set_option maxHeartbeats 3200000 in
theorem sReadSpoken_any (s : ByteArray) (w : World) (hsz : s.size ≤ 1048576) : Calls Tryd.prog 19 #[.string s] w fun e w' => RsPost s w e w' := by
  obtain ⟨L, z, hs⟩ := split_two 10 s
  have Hs := Lib.hid hs
  have Hone : Hid (∀ (x : Int) (y : ByteArray), ∀ u ∈ [Value.int .i64 x, Value.string y], u.oneCell' = true) := Lib.hid (by intro x y u hu; simp at hu; rcases hu with rfl | rfl <;> rfl)
  have hL : (L ++ [z]).length = L.length + 1 := by simp
  have HLn : Hid (Calls Tryd.prog 66 #[.string s, .int .u8 10] w fun e w' => ∃ A cc, e = .returned (.slice A (L.length + 1) cc) ∧ L.length + 1 ≤ cc ∧ RdL w' w'.heap.size A 1 encString L ∧ Below w.heap.size w w') := Lib.hid (by
    refine (l1Split_any s 10 w hsz).mono ?_
    rintro e w' ⟨A, cc, rfl, hcc, ho, hb⟩
    rw [Hs.out] at hcc ho ⊢
    refine ⟨A, cc, by rw [hL], by rw [← hL]; exact hcc, ?_, hb⟩
    have := (ho.rd encString_len).firsts L.length
    simpa using this)
  have hys : Hid (∀ k (h : k < L.length), (L[k]'h).size ≤ 1048576) := Lib.hid fun k h => Nat.le_trans (piece_size (c := 10) (s := s) (by rw [Hs.out]; exact List.mem_append.2 (.inl (List.getElem_mem h)))) hsz
  have hLs : L.length ≤ 1048576 := by
    have h1 := (splitB_splitS 10 s).2
    have h2 : Lib.countB s ⟨#[10]⟩ = s.data.toList.count 10 := Lib.count_one 10 _
    have h3 : s.data.toList.count 10 ≤ s.data.toList.length := List.count_le_length
    have h4 : s.data.toList.length = s.size := rfl
    rw [hs, List.length_append] at h1
    simp at h1; omega
  clear hs hL
  go_enter Tryd.func19, Tryd.ntmps19
  go_wp2_with (go_at_call 66; refine HLn.out.mono ?_; rintro e w1 ⟨A, c, rfl, hcc, hr1, hb1⟩; have Hb1 := Lib.hid hb1; have Hr1 := Lib.hid hr1; have hz1 := hb1.size; clear hr1 hb1)
  go_loopw [5, 19] (fun v i wr => ∃ (k : Nat) (l : List Spk), k ≤ L.length ∧ l.length = k ∧ i = .int .i64 (k : Int) ∧ Hid (PartR LnS L l) ∧ Grow wr w1.heap.size 97 2 Spk.enc v l ∧ Below w1.heap.size w1 wr) (fun _ i _ => L.length - (intOf i).toNat)
  case atStart => exact ⟨0, [], by omega, rfl, by rfl, Lib.hid PartR.nil, Grow.nil, Below.refl _ _⟩
  case round =>
    obtain ⟨k, l, hk, hlk, rfl, hpt, hgr, hbl⟩ := hrel
    have HGr := Lib.hid hgr
    have Hbl := Lib.hid hbl
    have hzr := hbl.size
    have Hlk := Lib.hid hlk
    clear hgr hbl hlk
    by_cases hlt : k < L.length
    · obtain ⟨g, off, hA, hg, hcell⟩ := Hr1.out.at hlt
      have r0 := (Hbl.out.cell (p := ⟨g, off + k * 1, none⟩) hg).trans (hcell 0 _ rfl)
      subst hA
      clear hcell
      rw [Nat.mul_one] at r0
      have hy := hys.out k hlt
      obtain ⟨y, Hy⟩ : ∃ y, Hid (L[k] = y) := ⟨_, Lib.hid rfl⟩
      rw [Hy.out] at r0 hy
      by_cases h2 : (splitS 32 y).length = 2
      · obtain ⟨a, b, hab⟩ : ∃ a b, splitS 32 y = [a, b] := by
          match h : splitS 32 y, h2 with
          | [a, b], _ => exact ⟨a, b, rfl⟩
        have hx : Hid (PartR LnS L (l ++ [⟨readV a, b⟩])) := Lib.hid (hpt.out.snoc Hlk.out hlt ⟨a, b, by rw [Hy.out]; exact hab, rfl, rfl⟩)
        have ha : a.size ≤ 1048576 := Nat.le_trans (piece_size (c := 32) (s := y) (by rw [hab]; simp)) hy
        have HC : Hid (Calls Tryd.prog 66 #[.string y, .int .u8 32] wr fun e w' => ∃ g2 cc, e = .returned (.slice (some ⟨g2, 0, none⟩) 2 cc) ∧ g2 < w'.heap.size ∧ w'.cell? ⟨g2, 0, none⟩ = some (.string a) ∧ w'.cell? ⟨g2, 1, none⟩ = some (.string b) ∧ Below wr.heap.size wr w') := Lib.hid (by
          refine (l1Split_any y 32 wr hy).mono ?_
          rintro e w' ⟨A2, cc, rfl, hcc, ho, hb⟩
          rw [hab] at ho ⊢
          obtain ⟨g2, f, rfl, h3, h4, h5⟩ := ho.cells (by simp)
          have h6 := ho.rd encString_len
          obtain ⟨g3, off3, hA3, hg3, hc3⟩ := h6.at (k := 0) (by simp)
          obtain ⟨g4, off4, hA4, hg4, hc4⟩ := h6.at (k := 1) (by simp)
          injection hA3 with hA3; injection hA3 with q1 q2; subst q1 q2
          injection hA4 with hA4; injection hA4 with q1 q2; subst q1 q2
          exact ⟨g2, cc, rfl, hg3, by simpa using hc3 0 _ rfl, by simpa using hc4 0 _ rfl, hb⟩)
        have hl64 : l.length ≤ 1048576 := by have := Hlk.out; omega
        clear h2 hab
        go_upto_region 9 with (go_at_call 66; refine HC.out.mono ?_; rintro e w2 ⟨g2, c2, rfl, hg2, C0, C1, hb2⟩; have Hb2 := Lib.hid (Hbl.out.trans (hb2.mono hzr)); have hz2 := hb2.size; have HGr2 := Lib.hid (HGr.out.later hb2); clear hb2)
        have hz3 : w1.heap.size ≤ w2.heap.size := by omega
        have HGd : Hid (Grow w2.drew w1.heap.size 97 2 Spk.enc u5 l) := Lib.hid (HGr2.out.drewN 1)
        obtain ⟨R, HR⟩ : ∃ R, Hid (readV a = R) := ⟨_, Lib.hid rfl⟩
        have HN : Hid (Calls Tryd.prog 67 #[.string a] w2.drew fun e w' => ∃ v, e = .returned v ∧ (v = .int .i64 R ∧ Below w2.drew.heap.size w2.drew w')) := Lib.hid (by
          rw [← HR.out]; exact (l1Read_any a w2.drew ha).mono fun e w' h => ⟨_, h.1, rfl, h.2⟩)
        rw [HR.out] at hx
        go_region_law (first
          | (refine step_callsX (by rfl) 67 (by rfl) #[.string a] (by go_simp) HN.out ?_; rintro v w3 ⟨rfl, hb3⟩; have q1 := (hb3.cell (p := ⟨g2, 1, none⟩) hg2).trans C1; have HG3 := Lib.hid (HGd.out.later hb3); have hz4 : w1.heap.size ≤ w3.heap.size := Nat.le_trans hz3 hb3.size; have HB3 := Lib.hid (Hb2.out.drew.trans (hb3.mono hz3)); clear hb3)
          | (refine step_pushA rfl (.tmp 28) (.tmp 37) 26 rfl w1.heap.size 97 _ 2 24 Spk.enc rfl Spoken_info rfl (by omega) u5 l [⟨R, b⟩] 1 rfl rfl rfl HG3.out rfl Spk_enc_len (Hone.out _ _) (by simp) (by simp only [List.length_singleton]; omega) (by omega) (by omega) ?_; intro v' w4 hg4 hb4 hgb4 hk4; have HG4 := Lib.hid hg4; have HB4 := Lib.hid hb4; clear hg4 hb4 hgb4 hk4))
        all_goals
          go_wp2
          go_roundw
          case rel => exact ⟨k + 1, _, by omega, by rw [List.length_append, Hlk.out]; rfl, by go_num, hx, HG4.out, HB3.out.trans HB4.out⟩
          case measure => simp [intOf]; omega
      · have hno : Hid (∀ l, ¬ TxtOf l s) := Lib.hid fun l h => by
          obtain ⟨h1, h3⟩ := h.rdS Hs.out
          obtain ⟨a, b, h4, _⟩ := h3 k hlt (by omega)
          rw [Hy.out] at h4
          exact h2 (by rw [h4]; rfl)
        obtain ⟨m, hm⟩ : ∃ m, Hid ((splitS 32 y).length = m) := ⟨_, Lib.hid rfl⟩
        rw [hm.out] at h2
        have e4 : ((m : Int) == 2) = false := by simp; omega
        have HC := Lib.hid (l1Split_any y 32 wr hy)
        rw [hm.out] at HC
        clear h2
        go_wp2_with (go_at_call 66; refine HC.out.mono ?_; rintro e w2 ⟨A2, c2, rfl, hc2, ho2, hb2⟩; have Hb2 := Lib.hid (Hbl.out.trans (hb2.mono hzr)); clear hb2 ho2)
        go_ret2
        exact rsNo hno.out rfl (Hb1.out.trans (Hb2.out.mono hz1))
    · have hkL : l.length = L.length := by have := Hlk.out; omega
      have HkL := Lib.hid hkL
      have hl9 : l.length ≤ 1048576 := by omega
      obtain ⟨A', c', hv, ho⟩ := HGr.out.own Spk_enc_len
      have Ho := Lib.hid ho
      subst hv
      by_cases hgood : spokenLP l
      · have HG := Lib.hid (sSpokenText0_t l A' c' wr (ho.rd Spk_enc_len) hl9 hgood)
        have Hgood := Lib.hid hgood
        obtain ⟨X, hX⟩ : ∃ X, Hid (spkTo l l.length = X) := ⟨_, Lib.hid rfl⟩
        rw [hX.out] at HG
        clear ho hkL hgood
        by_cases hXs : X = s
        · have hyes : Hid (TxtOf l s) := Lib.hid ⟨Hgood.out, by rw [hX.out, hXs]⟩
          subst hXs
          go_wp2_with (go_at_call 11; refine HG.out.mono ?_; rintro e w3 ⟨rfl, hb3⟩)
          go_ret2
          exact rsYes hyes.out rfl ((Ho.out.later hb3).mono hz1 hb3.size) (Hb1.out.trans ((Hbl.out.trans (hb3.mono hzr)).mono hz1))
        · have hno : Hid (∀ l, ¬ TxtOf l s) := Lib.hid fun l' h => by
            obtain ⟨h1, h2⟩ := h.rdS Hs.out
            have := same_list (R := LnS) (fun _ _ _ => LnS.det) h1 HkL.out h2 hpt.out.2
            subst this
            exact hXs (hX.out.symm.trans h.2)
          have e5 : (X.toList == s.toList) = false := by
            refine beq_eq_false_iff_ne.2 fun e => hXs ?_
            rw [ByteArray.toList_eq, ByteArray.toList_eq] at e
            exact bytes_ext e
          clear hXs
          go_wp2_with (go_at_call 11; refine HG.out.mono ?_; rintro e w3 ⟨rfl, hb3⟩)
          go_ret2
          exact rsNo hno.out rfl (Hb1.out.trans ((Hbl.out.trans (hb3.mono hzr)).mono hz1))
      · have HG := Lib.hid (sSpokenText_f l A' c' wr (ho.rd Spk_enc_len) hl9 hgood)
        have hno : Hid (∀ l, ¬ TxtOf l s) := Lib.hid fun l' h => by
          obtain ⟨h1, h2⟩ := h.rdS Hs.out
          have := same_list (R := LnS) (fun _ _ _ => LnS.det) h1 HkL.out h2 hpt.out.2
          subst this
          exact hgood h.1
        clear ho hkL hgood
        go_wp2_with (go_at_call 11; refine HG.out.mono ?_; rintro e w3 ⟨rfl, hb3⟩)
        go_ret2
        exact rsNo hno.out rfl (Hb1.out.trans ((Hbl.out.trans (hb3.mono hzr)).mono hz1))
end Go.Proofs.YtpedfjcidbopiaaDoor
