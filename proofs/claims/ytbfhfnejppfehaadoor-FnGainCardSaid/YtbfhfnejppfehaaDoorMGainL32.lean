import Derived.Test.YtbfhfnejppfehaaDoorMGainL31
import Derived.Test.YtbfhfnejppfehaaDoorMGainL12
import Derived.Test.YtbfhfnejppfehaaDoorMGainL13
import Derived.Test.YtbfhfnejppfehaaDoorMGainL26
import Derived.Test.YtbfhfnejppfehaaDoorMGainL04
import Derived.Test.YtbfhfnejppfehaaDoorMGainL06
/-
  The text of a placing: contracts of both sides.
-/
namespace Go.Proofs.YtbfhfnejppfehaaDoor
open Go.RowKit
set_option linter.unusedVariables false
set_option linter.unusedSimpArgs false
set_option maxRecDepth 100000

/-- The word of bell k + 1. -/
def plX (l : List Pk) (who : List Int) (k : Nat) : ByteArray := (numS (k + 1) ++ ⟨#[58]⟩) ++ nmAt l (who.getD k 0).toNat
def plW (l : List Pk) (who : List Int) (k : Nat) : List ByteArray := (List.range k).map (plX l who)
/-- The text of the first k bells. -/
def plTo (l : List Pk) (who : List Int) : Nat → ByteArray
  | 0 => ⟨#[]⟩
  | k + 1 => (if k = 0 then plTo l who k else plTo l who k ++ ⟨#[32]⟩) ++ plX l who k
theorem plW_len (l : List Pk) (who : List Int) (k : Nat) : (plW l who k).length = k := by simp [plW]
theorem plW_succ (l : List Pk) (who : List Int) (k : Nat) : plW l who (k + 1) = plW l who k ++ [plX l who k] := by simp [plW, List.range_succ]
theorem pl_join (l : List Pk) (who : List Int) : ∀ k, joinS (plW l who (k + 1)) ⟨#[32]⟩ = plTo l who (k + 1)
  | 0 => by
    rw [plW_succ]
    have : plW l who 0 = [] := rfl
    rw [this, List.nil_append, joinS_one]
    simp only [plTo, if_pos]
    apply ByteArray.ext
    simp [ByteArray.data_append]
  | k + 1 => by
    have ih := pl_join l who k
    rw [plW_succ]
    obtain ⟨y, ys, e⟩ : ∃ y ys, plW l who (k + 1) = y :: ys := by
      have := plW_len l who (k + 1)
      match h : plW l who (k + 1), this with
      | [], h0 => simp at h0
      | y :: ys, _ => exact ⟨y, ys, rfl⟩
    rw [e, joinS_snoc, ← e, ih]
    conv => rhs; rw [plTo]
    rw [if_neg (by omega)]
theorem plX_size {l : List Pk} {n : Int} {who : List Int} (h : placingP l n who) {k : Nat} (hk : k < who.length) : (plX l who k).size ≤ 21 := by
  obtain ⟨hp, hn, hs⟩ := h
  obtain ⟨⟨b1, b2⟩, _⟩ := hs k hk
  have h7 := hp.1.2
  have hw : isWordP (nmAt l (who.getD k 0).toNat) := (hp.2.2 _ (by omega)).1
  unfold plX
  rw [ByteArray.size_append, ByteArray.size_append]
  have h1 := numS_bd (n := k + 1) (by omega)
  have h2 := hw.2.2
  have h3 : (⟨#[58]⟩ : ByteArray).size = 1 := rfl
  omega
theorem plTo_size {l : List Pk} {n : Int} {who : List Int} (h : placingP l n who) : ∀ k, k ≤ who.length → (plTo l who k).size ≤ 22 * k
  | 0, _ => by show (⟨#[]⟩ : ByteArray).size ≤ _; decide
  | k + 1, hk => by
    have ih := plTo_size h k (by omega)
    have hx := plX_size h (k := k) (by omega)
    simp only [plTo]
    rw [ByteArray.size_append]
    split
    · omega
    · rw [ByteArray.size_append]; have h3 : (⟨#[32]⟩ : ByteArray).size = 1 := rfl; omega




set_option maxHeartbeats 1000000 in
theorem l27Text_any (l : List Pk) (who : List Int) (A A' : Option Addr) (c c' : Nat) (n : Int) (w : World) (h : RdP w w.heap.size A l) (h' : RdL w w.heap.size A' 1 encInt who) (hl : l.length ≤ 1048576) (hl' : who.length ≤ 1048576) (htab : Tab w) (hp : placingP l n who) :
    Calls Tryd.prog 54 #[.slice A l.length c, .slice A' who.length c'] w fun e w' => e = .returned (.string (plTo l who who.length)) ∧ Below w.heap.size w w' := by
  have hwl : (who.length : Int) = n := hp.2.1
  have h7 : n ≤ 7 := hp.1.1.2
  have h3 : 3 ≤ n := hp.1.1.1
  have HPl := Lib.hid hp
  have HT := Lib.hid htab
  obtain ⟨D, hD, hr, hi⟩ := h
  have hDl : D.length = l.length := by rw [← hD]; simp
  have hnl : n ≤ l.length := hp.1.2.1.1
  have hDl0 : 0 < D.length := by omega
  obtain ⟨g, off, rfl, hg, hcd⟩ := people_cells hr hDl0
  obtain ⟨gw, ofw, hA, hgw, _⟩ := h'.at (show 0 < who.length by omega)
  subst hA
  have hnm : Hid (∀ (k : Nat) (hk : k < who.length), ∃ (i : Nat) (hi : i < D.length), w.cell? ⟨gw, ofw + k, none⟩ = some (.int .i64 (i : Int)) ∧ w.cell? ⟨g, off + i * 2, none⟩ = some (.string (nmAt l (who.getD k 0).toNat)) ∧ (nmAt l (who.getD k 0).toNat).size ≤ 10) := Lib.hid (fun k hk => by
    obtain ⟨i, h1, h2, _⟩ := seats_at hp.1 hp.2.1 hp.2.2 hk
    obtain ⟨g', off', hA, _, hcell⟩ := h'.at hk
    simp only [Option.some.injEq, Addr.mk.injEq, and_true] at hA
    obtain ⟨rfl, rfl⟩ := hA
    have hi : i < D.length := by omega
    have e : who.getD k 0 = (i : Int) := by rw [List.getD_eq_getElem?_getD, List.getElem?_eq_getElem hk, h2]; rfl
    have c0 := hcell 0 _ rfl
    rw [Nat.mul_one, Nat.add_zero, h2] at c0
    refine ⟨i, hi, c0, ?_, ?_⟩
    · rw [e, Int.toNat_natCast, (hcd i hi).1, ← hD, nmAt_key hi]
    · rw [e, Int.toNat_natCast]; exact (hp.1.2.2 i h1).1.2.2)
  have HDl := Lib.hid hDl
  clear hr hi hcd h' htab hD hDl
  go_enter Tryd.func54, Tryd.ntmps54
  go_wp2
  go_loopw [5, 10] (fun v i wr => ∃ (k : Nat) (S : ByteArray), k ≤ who.length ∧ i = .int .i64 (k : Int) ∧ v = .string S ∧ Hid (S = plTo l who k) ∧ S.size ≤ 22 * k ∧ Below w.heap.size w wr) (fun _ i _ => who.length - (intOf i).toNat)
  case atStart => exact ⟨0, _, by omega, by rfl, rfl, Lib.hid rfl, by decide, Below.refl _ _⟩
  case round =>
    obtain ⟨k, S, hk, rfl, rfl, hS, hsz, hbl⟩ := hrel
    have Hbl := Lib.hid hbl
    have hz0 := hbl.size
    clear hbl
    by_cases hlt : k < who.length
    · obtain ⟨i, hi, c0, c1, hn10⟩ := hnm.out k hlt
      have r0 := (Hbl.out.cell (p := ⟨gw, ofw + k, none⟩) hgw).trans c0
      have r1 := (Hbl.out.cell (p := ⟨g, off + i * 2, none⟩) hg).trans c1
      have hX : Hid (plX l who k = (numS (k + 1) ++ ⟨#[58]⟩) ++ nmAt l (who.getD k 0).toNat) := Lib.hid rfl
      generalize nmAt l (who.getD k 0).toNat = nm at *
      obtain ⟨NU, hNU⟩ : ∃ x, Hid (numS (k + 1) = x) := ⟨_, Lib.hid rfl⟩
      have hu10 : NU.size ≤ 10 := by rw [← hNU.out]; exact numS_bd (by omega)
      rw [hNU.out] at hX
      have hw64 : IntKind.i64.wrap ((k : Int) + 1) = (k : Int) + 1 := IntWalk.i64_in _ (by omega)
      have Hnum : Hid (∀ W, Below w.heap.size w W → Calls Tryd.prog 90 #[.int .i64 ((k : Int) + 1)] W fun e w' => ∃ v, e = .returned v ∧ (v = .string NU ∧ Below W.heap.size W w')) := Lib.hid fun W hb => by
        have := l1Num_any (k + 1) (k + 1) W (Nat.le_refl _) (by omega)
        rw [hNU.out, show ((k + 1 : Nat) : Int) = (k : Int) + 1 by omega] at this; exact this.mono fun e w' h => ⟨_, h.1, rfl, h.2⟩
      have hs1 : (NU ++ (⟨#[58]⟩ : ByteArray)).size = NU.size + 1 := by rw [ByteArray.size_append]; rfl
      have hs2 : ((NU ++ (⟨#[58]⟩ : ByteArray)) ++ nm).size = NU.size + 1 + nm.size := by rw [ByteArray.size_append, hs1]
      have k1 : ¬ 9223372036854775807 < NU.size + 1 := by omega
      have k2 : ¬ 9223372036854775807 < NU.size + 1 + nm.size := by omega
      have hil : i < l.length := by have := HDl.out; omega
      clear c0 c1
      have k3 : ¬ 9223372036854775807 < S.size + 1 := by omega
      have hs22a : (S ++ (⟨#[32]⟩ : ByteArray)).size ≤ 22 * k + 1 := by rw [ByteArray.size_append]; have h3 : (⟨#[32]⟩ : ByteArray).size = 1 := rfl; omega
      go_upto_region 7 with fail
      · have HS3 : Hid (plTo l who (k + 1) = (S ++ ⟨#[32]⟩) ++ plX l who k) := Lib.hid (by simp only [plTo]; rw [if_neg (by omega), hS.out])
        generalize S ++ (⟨#[32]⟩ : ByteArray) = S2 at *
        have k4 : ¬ 9223372036854775807 < S2.size + (NU.size + 1 + nm.size) := by omega
        go_region_law (refine step_callsX (by rfl) 90 (by rfl) #[.int .i64 ((k : Int) + 1)] (by go_simp) (Hnum.out _ Hbl.out.drew) ?_; rintro v w2 ⟨rfl, hb2⟩; have q1 := (hb2.cell (p := ⟨g, off + i * 2, none⟩) (show g < wr.drew.heap.size from Nat.lt_of_lt_of_le hg hz0)).trans r1)
        all_goals
          clear q1 r0 r1
          go_wp2
          go_roundw
          case rel => exact ⟨k + 1, S2 ++ ((NU ++ ⟨#[58]⟩) ++ nm), by omega, by go_num, rfl, Lib.hid (by rw [HS3.out, ← hX.out]), by rw [ByteArray.size_append, hs2]; omega, Hbl.out.drew.trans (hb2.mono hz0)⟩
          case measure => simp [intOf]; omega
      · have HS3 : Hid (plTo l who (k + 1) = S ++ plX l who k) := Lib.hid (by simp only [plTo]; rw [if_pos (by omega), hS.out])
        clear hs22a
        obtain ⟨S2, rfl⟩ : ∃ S2, S2 = S := ⟨S, rfl⟩
        have k4 : ¬ 9223372036854775807 < S2.size + (NU.size + 1 + nm.size) := by omega
        go_region_law (refine step_callsX (by rfl) 90 (by rfl) #[.int .i64 ((k : Int) + 1)] (by go_simp) (Hnum.out _ Hbl.out.drew) ?_; rintro v w2 ⟨rfl, hb2⟩; have q1 := (hb2.cell (p := ⟨g, off + i * 2, none⟩) (show g < wr.drew.heap.size from Nat.lt_of_lt_of_le hg hz0)).trans r1)
        all_goals
          clear q1 r0 r1
          go_wp2
          go_roundw
          case rel => exact ⟨k + 1, S2 ++ ((NU ++ ⟨#[58]⟩) ++ nm), by omega, by go_num, rfl, Lib.hid (by rw [HS3.out, ← hX.out]), by rw [ByteArray.size_append, hs2]; omega, Hbl.out.drew.trans (hb2.mono hz0)⟩
          case measure => simp [intOf]; omega
    · obtain rfl : k = who.length := by omega
      go_wp2
      go_ret
      have e9 := hS.out
      subst e9
      exact ⟨rfl, Hbl.out⟩

theorem sPlacingText_t (l : List Pk) (who : List Int) (A A' : Option Addr) (c c' : Nat) (n : Int) (w : World) (h : RdP w w.heap.size A l) (h' : RdL w w.heap.size A' 1 encInt who) (hl : l.length ≤ 1048576) (hc : l.length ≤ c) (hs : ∀ x ∈ l, Person_small 1048576 x) (hl' : who.length ≤ 1048576) (hc' : who.length ≤ c') (htab : Tab w) (hp : placingP l n who) :
    Calls Tryd.prog 21 #[.slice A l.length c, .int .i64 n, .slice A' who.length c'] w fun e w' => e = .returned (.tuple #[.string (plTo l who who.length), .bool true]) ∧ Below w.heap.size w w' := by
  have HG := Lib.hid (sPlacing_any l who A A' c c' n w h h' hl hc hs hl' hc')
  rw [B_t hp] at HG
  have HX : Hid (∀ W, Below w.heap.size w W → Calls Tryd.prog 54 #[.slice A l.length c, .slice A' who.length c'] W fun e w' => e = .returned (.string (plTo l who who.length)) ∧ Below W.heap.size W w') := Lib.hid fun W hb => l27Text_any l who A A' c c' n W ((h.below hb (Nat.le_refl _)).more hb.size) ((h'.below hb (Nat.le_refl _)).more hb.size) hl hl' (htab.later hb) hp
  clear h h' hs htab hp
  go_enter Tryd.func21, Tryd.ntmps21
  go_wp2_with (first | (go_at_call 47; refine HG.out.mono ?_; rintro e w1 ⟨rfl, hb1⟩) | (go_at_call 54; refine (HX.out w1 hb1).mono ?_; rintro e w2 ⟨rfl, hb2⟩))
  go_ret2
  exact ⟨rfl, hb1.trans (hb2.mono hb1.size)⟩
theorem sPlacingText_f (l : List Pk) (who : List Int) (A A' : Option Addr) (c c' : Nat) (n : Int) (w : World) (h : RdP w w.heap.size A l) (h' : RdL w w.heap.size A' 1 encInt who) (hl : l.length ≤ 1048576) (hc : l.length ≤ c) (hs : ∀ x ∈ l, Person_small 1048576 x) (hl' : who.length ≤ 1048576) (hc' : who.length ≤ c') (hp : ¬ placingP l n who) :
    Calls Tryd.prog 21 #[.slice A l.length c, .int .i64 n, .slice A' who.length c'] w fun e w' => e = .returned (.tuple #[.string ⟨#[]⟩, .bool false]) ∧ Below w.heap.size w w' := by
  have HG := Lib.hid (sPlacing_any l who A A' c c' n w h h' hl hc hs hl' hc')
  rw [B_f hp] at HG
  clear h h' hs hp
  go_enter Tryd.func21, Tryd.ntmps21
  go_wp2_with (go_at_call 47; refine HG.out.mono ?_; rintro e w1 ⟨rfl, hb1⟩)
  go_ret2
  exact ⟨rfl, hb1⟩
theorem iPlacingText_f (l : List Pk) (who : List Int) (A A' : Option Addr) (c c' : Nat) (n : Int) (w : World) (h : RdP w w.heap.size A l) (h' : RdL w w.heap.size A' 1 encInt who) (hl : l.length ≤ 1048576) (hc : l.length ≤ c) (hs : ∀ x ∈ l, Person_small 1048576 x) (hl' : who.length ≤ 1048576) (hc' : who.length ≤ c') (hp : ¬ placingP l n who) :
    Calls Tryd.prog 20 #[.slice A l.length c, .int .i64 n, .slice A' who.length c'] w fun e w' => e = .returned (.tuple #[.string ⟨#[]⟩, .bool false]) ∧ Below w.heap.size w w' := by
  have HG := Lib.hid (iPlacing_any l who A A' c c' n w h h' hl hc hs hl' hc')
  rw [B_f hp] at HG
  clear h h' hs hp
  go_enter Tryd.func20, Tryd.ntmps20
  go_wp2_with (go_at_call 42; refine HG.out.mono ?_; rintro e w1 ⟨rfl, hb1⟩)
  go_ret2
  exact ⟨rfl, hb1⟩
set_option maxHeartbeats 1000000 in
theorem iPlacingText_t (l : List Pk) (who : List Int) (A A' : Option Addr) (c c' : Nat) (n : Int) (w : World) (h : RdP w w.heap.size A l) (h' : RdL w w.heap.size A' 1 encInt who) (hl : l.length ≤ 1048576) (hc : l.length ≤ c) (hs : ∀ x ∈ l, Person_small 1048576 x) (hl' : who.length ≤ 1048576) (hc' : who.length ≤ c') (htab : Tab w) (hp : placingP l n who) :
    Calls Tryd.prog 20 #[.slice A l.length c, .int .i64 n, .slice A' who.length c'] w fun e w' => e = .returned (.tuple #[.string (plTo l who who.length), .bool true]) ∧ Below w.heap.size w w' := by
  have HG := Lib.hid (iPlacing_any l who A A' c c' n w h h' hl hc hs hl' hc')
  rw [B_t hp] at HG
  clear hs hc hc'
  have hwl : (who.length : Int) = n := hp.2.1
  have h7 : n ≤ 7 := hp.1.1.2
  have h3 : 3 ≤ n := hp.1.1.1
  have HPl := Lib.hid hp
  have HT := Lib.hid htab
  obtain ⟨D, hD, hr, hi⟩ := h
  have hDl : D.length = l.length := by rw [← hD]; simp
  have hnl : n ≤ l.length := hp.1.2.1.1
  have hDl0 : 0 < D.length := by omega
  obtain ⟨g, off, rfl, hg, hcd⟩ := people_cells hr hDl0
  obtain ⟨gw, ofw, hA, hgw, _⟩ := h'.at (show 0 < who.length by omega)
  subst hA
  have hnm : Hid (∀ (k : Nat) (hk : k < who.length), ∃ (i : Nat) (hi : i < D.length), w.cell? ⟨gw, ofw + k, none⟩ = some (.int .i64 (i : Int)) ∧ w.cell? ⟨g, off + i * 2, none⟩ = some (.string (nmAt l (who.getD k 0).toNat)) ∧ (nmAt l (who.getD k 0).toNat).size ≤ 10) := Lib.hid (fun k hk => by
    obtain ⟨i, h1, h2, _⟩ := seats_at hp.1 hp.2.1 hp.2.2 hk
    obtain ⟨g', off', hA, _, hcell⟩ := h'.at hk
    simp only [Option.some.injEq, Addr.mk.injEq, and_true] at hA
    obtain ⟨rfl, rfl⟩ := hA
    have hi : i < D.length := by omega
    have e : who.getD k 0 = (i : Int) := by rw [List.getD_eq_getElem?_getD, List.getElem?_eq_getElem hk, h2]; rfl
    have c0 := hcell 0 _ rfl
    rw [Nat.mul_one, Nat.add_zero, h2] at c0
    refine ⟨i, hi, c0, ?_, ?_⟩
    · rw [e, Int.toNat_natCast, (hcd i hi).1, ← hD, nmAt_key hi]
    · rw [e, Int.toNat_natCast]; exact (hp.1.2.2 i h1).1.2.2)
  have HDl := Lib.hid hDl
  clear hr hi hcd h' htab hD hDl
  clear hp
  go_enter Tryd.func20, Tryd.ntmps20
  go_wp2_with (go_at_call 42; refine HG.out.mono ?_; rintro e w1 ⟨rfl, hb1⟩; have HB1 := Lib.hid hb1; have hz1 := hb1.size; clear hb1)
  go_loopw [8, 19] (fun v i wr => ∃ k : Nat, k ≤ who.length ∧ i = .int .i64 (k : Int) ∧ Hid (Grow wr w1.heap.size 9 1 encString v (plW l who k)) ∧ Hid (Below w1.heap.size w1 wr)) (fun _ i _ => who.length - (intOf i).toNat)
  case atStart => exact ⟨0, by omega, by rfl, Lib.hid (Grow.empty (Nat.le_refl _)), Lib.hid ((Below.refl _ _).alloc (Nat.le_refl _) _)⟩
  case round =>
    obtain ⟨k, hk, rfl, HGr, HB2⟩ := hrel
    have Hbl := Lib.hid (HB1.out.trans (HB2.out.mono hz1))
    have hz0 := Hbl.out.size
    have hz2 := HB2.out.size
    by_cases hlt : k < who.length
    · obtain ⟨i, hi, c0, c1, hn10⟩ := hnm.out k hlt
      have r0 := (Hbl.out.cell (p := ⟨gw, ofw + k, none⟩) hgw).trans c0
      have r1 := (Hbl.out.cell (p := ⟨g, off + i * 2, none⟩) hg).trans c1
      have hX : Hid (plX l who k = (numS (k + 1) ++ ⟨#[58]⟩) ++ nmAt l (who.getD k 0).toNat) := Lib.hid rfl
      generalize nmAt l (who.getD k 0).toNat = nm at *
      obtain ⟨NU, hNU⟩ : ∃ x, Hid (numS (k + 1) = x) := ⟨_, Lib.hid rfl⟩
      have hu10 : NU.size ≤ 10 := by rw [← hNU.out]; exact numS_bd (by omega)
      rw [hNU.out] at hX
      have hw64 : IntKind.i64.wrap ((k : Int) + 1) = (k : Int) + 1 := IntWalk.i64_in _ (by omega)
      have Hnum : Hid (∀ W, Below w.heap.size w W → Calls Tryd.prog 52 #[.int .i64 ((k : Int) + 1)] W fun e w' => ∃ v, e = .returned v ∧ (v = .string NU ∧ Below W.heap.size W w')) := Lib.hid fun W hb => by
        have := decimal_any (k + 1) W (by omega) (HT.out.later hb)
        rw [hNU.out, show ((k + 1 : Nat) : Int) = (k : Int) + 1 by omega] at this; exact this.mono fun e w' h => ⟨_, h.1, rfl, h.2⟩
      have hs1 : (NU ++ (⟨#[58]⟩ : ByteArray)).size = NU.size + 1 := by rw [ByteArray.size_append]; rfl
      have hs2 : ((NU ++ (⟨#[58]⟩ : ByteArray)) ++ nm).size = NU.size + 1 + nm.size := by rw [ByteArray.size_append, hs1]
      have k1 : ¬ 9223372036854775807 < NU.size + 1 := by omega
      have k2 : ¬ 9223372036854775807 < NU.size + 1 + nm.size := by omega
      have hil : i < l.length := by have := HDl.out; omega
      clear c0 c1
      obtain ⟨X, hXX⟩ : ∃ X, Hid ((NU ++ ⟨#[58]⟩) ++ nm = X) := ⟨_, Lib.hid rfl⟩
      have Hone : Hid (∀ X : ByteArray, ∀ u ∈ [Value.string X], u.oneCell' = true) := Lib.hid (by intro x u hu; simp at hu; subst hu; rfl)
      have hpl := plW_len l who k
      have Hsu := Lib.hid (plW_succ l who k)
      rw [hX.out] at Hsu
      have HGd : Hid (Grow wr.drew w1.heap.size 9 1 encString u8 (plW l who k)) := Lib.hid (HGr.out.drewN 1)
      go_upto_region 7 with fail
      go_region_law (first
        | (refine step_callsX (by rfl) 52 (by rfl) #[.int .i64 ((k : Int) + 1)] (by go_simp) (Hnum.out _ Hbl.out.drew) ?_; rintro v w2 ⟨rfl, hb2⟩; have q1 := (hb2.cell (p := ⟨g, off + i * 2, none⟩) (show g < wr.drew.heap.size from Nat.lt_of_lt_of_le hg hz0)).trans r1; have hz3 : w1.heap.size ≤ w2.heap.size := Nat.le_trans hz2 hb2.size; have HG3 := Lib.hid (HGd.out.later hb2); have HB3 := Lib.hid (HB2.out.drew.trans (hb2.mono hz2)); clear hb2)
        | (refine step_pushA rfl (.tmp 24) (.tmp 35) 22 rfl w1.heap.size 9 _ 1 16 encString rfl String_info rfl (by omega) u8 (plW l who k) [(NU ++ ⟨#[58]⟩) ++ nm] 1 rfl rfl rfl HG3.out rfl encString_len (Hone.out _) (by simp) (by simp only [List.length_singleton]; omega) (by omega) hz3 ?_; intro v' w4 hg4 hb4 hgb4 hk4; have HG4 := Lib.hid hg4; have HB4 := Lib.hid hb4; clear hg4 hb4 hgb4 hk4))
      all_goals
        clear q1 r0 r1
        go_wp2
        go_roundw
        case rel => exact ⟨k + 1, by omega, by go_num, by rw [Hsu.out]; exact HG4, Lib.hid (HB3.out.trans HB4.out)⟩
        case measure => simp [intOf]; omega
    · obtain rfl : k = who.length := by omega
      obtain ⟨A9, c9, hv, ho⟩ := HGr.out.own encString_len
      subst hv
      have hcap := HGr.out.capN
      have hpl := plW_len l who who.length
      have hJe : joinS (plW l who who.length) ⟨#[32]⟩ = plTo l who who.length := by
        obtain ⟨m, hm⟩ : ∃ m, who.length = m + 1 := ⟨who.length - 1, by omega⟩
        rw [hm]; exact pl_join l who m
      have hJ := joined_any (plW l who who.length) ⟨#[32]⟩ A9 c9 wr (ho.rd encString_len) (by omega) hcap (by omega) (by rw [hJe]; have := plTo_size HPl.out who.length (Nat.le_refl _); omega)
      rw [hJe, hpl] at hJ
      rw [hpl]
      have HJ := Lib.hid hJ
      clear hJ hJe hcap ho hpl
      go_wp2_with (go_at_call 53; refine HJ.out.mono ?_; rintro e w9 ⟨rfl, hb9⟩)
      go_ret2
      exact ⟨rfl, Hbl.out.trans (hb9.mono hz0)⟩
end Go.Proofs.YtbfhfnejppfehaaDoor
