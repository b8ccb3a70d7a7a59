import Derived.Test.YtglnehinmdmgmaaGreatMErrorsL14
import Derived.Test.YtglnehinmdmgmaaGreatMErrorsL16
import Derived.Test.YtglnehinmdmgmaaGreatMErrorsL04
import Derived.Test.YtglnehinmdmgmaaGreatMErrorsL05
import Derived.Test.YtglnehinmdmgmaaGreatMErrorsL03
import Derived.StillTailTactics
/-
  The sums of the errors of each bell: in plain words, and the contracts of both sides.
-/
namespace Go.Proofs.YtglnehinmdmgmaaGreat
open Go.RowKit
set_option linter.unusedVariables false
set_option linter.unusedSimpArgs false
set_option maxRecDepth 100000

def absI (e : Int) : Int := if e < 0 then -e else e
theorem absI_bd {e : Int} (h : inB e (-10000000) 10000000) : 0 ≤ absI e ∧ absI e ≤ 10000000 := by unfold inB at h; unfold absI; split <;> omega
/-- The bell of a blow, from 0 on. -/
def bellIx (rows : List ByteArray) (x : Blw) : Nat := (bat (rows.getD x.row.toNat ⟨#[]⟩) (x.place - 1) - 49).toNat
/-- The sums behind the first k blows. -/
def worstTo (rows : List ByteArray) (l : List Blw) (es : List Int) (n : Nat) : Nat → List Int
  | 0 => List.replicate n 0
  | k + 1 => match l[k]?, es[k]? with
    | some x, some e => (worstTo rows l es n k).set (bellIx rows x) ((worstTo rows l es n k).getD (bellIx rows x) 0 + absI e)
    | _, _ => worstTo rows l es n k
theorem worstTo_len (rows : List ByteArray) (l : List Blw) (es : List Int) (n : Nat) : ∀ k, (worstTo rows l es n k).length = n
  | 0 => by simp [worstTo]
  | k + 1 => by
    have ih := worstTo_len rows l es n k
    simp only [worstTo]
    split
    · rw [List.length_set]; exact ih
    · exact ih
theorem worstTo_bd (rows : List ByteArray) (l : List Blw) (es : List Int) (n : Nat) : ∀ k (h : ∀ (i : Nat) (hi : i < es.length), i < k → inB es[i] (-10000000) 10000000) (p : Nat), 0 ≤ (worstTo rows l es n k).getD p 0 ∧ (worstTo rows l es n k).getD p 0 ≤ k * 10000000
  | 0, _, p => by
    simp only [worstTo, List.getD_eq_getElem?_getD, List.getElem?_replicate]
    split <;> simp
  | k + 1, h, p => by
    have ih := worstTo_bd rows l es n k (fun i hi hk => h i hi (by omega))
    simp only [worstTo]
    split
    · rename_i x e hx he
      have hb := absI_bd (by obtain ⟨h1, h2⟩ := List.getElem?_eq_some_iff.1 he; rw [← h2]; exact h k h1 (by omega) : inB e (-10000000) 10000000)
      have i1 := ih (bellIx rows x)
      have i2 := ih p
      rw [List.getD_eq_getElem?_getD, List.getElem?_set]
      rw [List.getD_eq_getElem?_getD] at i1 i2
      split
      · split
        · simp only [Option.getD_some]
          rw [List.getD_eq_getElem?_getD]
          omega
        · simp only [Option.getD_none]; omega
      · omega
    · have := ih p; omega
theorem worstTo_step {rows : List ByteArray} {l : List Blw} {es : List Int} {n k : Nat} {x : Blw} {e : Int} (hx : l[k]? = some x) (he : es[k]? = some e) :
    worstTo rows l es n (k + 1) = (worstTo rows l es n k).set (bellIx rows x) ((worstTo rows l es n k).getD (bellIx rows x) 0 + absI e) := by
  simp only [worstTo, hx, he]
/-- All is valid. -/
def base5 (es : List Int) (rows : List ByteArray) (l : List Blw) : Prop :=
  es.length ≤ 400 ∧ rowsP rows ∧ 0 < rows.length ∧ l.length = es.length ∧ blowsP (sz0 rows) l
def goodTo (es : List Int) (rows : List ByteArray) (l : List Blw) (k : Nat) : Prop := ∀ (j : Nat) (h1 : j < es.length) (h3 : j < l.length), j < k → inB es[j] (-10000000) 10000000 ∧ l[j].row < rows.length
def worstP (es : List Int) (rows : List ByteArray) (l : List Blw) : Prop := base5 es rows l ∧ goodTo es rows l es.length
theorem goodTo_succ {es : List Int} {rows : List ByteArray} {l : List Blw} {k : Nat} (h : goodTo es rows l k) (h1 : k < es.length) (h3 : k < l.length) (he : inB es[k] (-10000000) 10000000) (hx : l[k].row < rows.length) : goodTo es rows l (k + 1) := fun j a b c => by
  rcases Nat.lt_or_eq_of_le (Nat.le_of_lt_succ c) with h' | rfl
  · exact h j a b h'
  · exact ⟨he, hx⟩
theorem abs_any (e : Int) (w : World) (h : inB e (-10000000) 10000000) : Calls Tryz.prog 21 #[.int .i64 e] w fun e' w' => e' = .returned (.int .i64 (absI e)) ∧ w = w' := by
  unfold inB at h
  obtain ⟨h1, h2⟩ := h
  by_cases h0 : e < 0
  · have e1 : absI e = -e := if_pos h0
    have E1 := Lib.hid e1
    clear e1
    have h3 : e < -e := by omega
    go_enter Tryz.func21, Tryz.ntmps21
    go_wp2
    go_ret
    exact ⟨ret_int E1.out.symm, rfl⟩
  · have e1 : absI e = e := if_neg h0
    have E1 := Lib.hid e1
    clear e1
    have h3 : ¬ e < -e := by omega
    go_enter Tryz.func21, Tryz.ntmps21
    go_wp2
    go_ret
    exact ⟨ret_int E1.out.symm, rfl⟩
theorem far0_any (e : Int) (w : World) (h : inB e (-10000000) 10000000) : Calls Tryz.prog 26 #[.int .i64 e, .int .i64 0] w fun e' w' => e' = .returned (.int .i64 (absI e)) ∧ w = w' := by
  unfold inB at h
  obtain ⟨h1, h2⟩ := h
  have hm : ∀ (x y : Int) (w : World), Calls Tryz.prog 46 #[.int .i64 x, .int .i64 y] w fun e w' => e = .returned (.int .i64 (if x < y then y else x)) ∧ w = w' := fun x y w => by
    by_cases h : x < y
    · have h' : ¬ y < x := by omega
      go_enter Tryz.func46, Tryz.ntmps46
      go_wp2
      go_ret
      exact ⟨rfl, rfl⟩
    · by_cases h' : y < x
      · go_enter Tryz.func46, Tryz.ntmps46
        go_wp2
        go_ret
        exact ⟨rfl, rfl⟩
      · obtain rfl : x = y := by omega
        go_enter Tryz.func46, Tryz.ntmps46
        go_wp2
        go_ret
        exact ⟨rfl, rfl⟩
  have hab : Hid (absI e = if e < -e then -e else e) := Lib.hid (by unfold absI; by_cases h0 : e < 0 <;> by_cases h3 : e < -e <;> simp [h0, h3] <;> omega)
  have Hm := Lib.hid hm
  clear hm
  go_enter Tryz.func26, Tryz.ntmps26
  go_wp2_with (go_at_call 46; refine (Hm.out _ _ _).mono ?_; rintro e' w' ⟨rfl, rfl⟩)
  all_goals
    go_ret
    exact ⟨ret_int (by rw [hab.out]; simp; try omega), rfl⟩

/-- What a round has at hand. -/
theorem worst_round {es : List Int} {rows : List ByteArray} {l : List Blw} (hp : base5 es rows l) {k : Nat} (hk : k < es.length) (hk3 : k < l.length) (hek : inB es[k] (-10000000) 10000000) (hxk : l[k].row < rows.length) :
    ∃ (r i : Nat) (hr : r < rows.length), l[k].row = r ∧ r < 800 ∧ l[k].place = (i : Int) + 1 ∧ i < 8 ∧ i < rows[r].size ∧ rows[r].size ≤ 8 ∧ 49 ≤ bat rows[r] i ∧ bat rows[r] i < 49 + sz0 rows ∧ sz0 rows ≤ 8 ∧ 3 ≤ sz0 rows ∧ bellIx rows l[k] = (bat rows[r] i - 49).toNat ∧ inB es[k] (-10000000) 10000000 := by
  obtain ⟨_, hrw, _, _, hb⟩ := hp
  have b1 := hb.2.2 k hk3
  have b2 := b1.1
  have b3 := b1.2.1
  have b4 := hxk
  unfold inB at b2 b3
  obtain ⟨r, hr⟩ : ∃ r : Nat, l[k].row = r := ⟨l[k].row.toNat, by omega⟩
  obtain ⟨i, hi⟩ : ∃ i : Nat, l[k].place = (i : Int) + 1 := ⟨(l[k].place - 1).toNat, by omega⟩
  have hrl : r < rows.length := by omega
  have hrow := hrw.2 r hrl
  have hsz := hrow.1.2.1
  have hsz3 := hrow.1.1
  have hle := hrw.1
  have hi2 : i < rows[r].size := by rw [hrow.2]; omega
  have hbt := hrow.1.2.2.1 i hi2
  refine ⟨r, i, hrl, hr, by omega, hi, by omega, hi2, hsz, hbt.1, by rw [← hrow.2]; exact hbt.2, by rw [← hrow.2]; exact hsz, by rw [← hrow.2]; exact hsz3, ?_, hek⟩
  unfold bellIx
  rw [hr, hi]
  have e1 : rows.getD (r : Int).toNat ⟨#[]⟩ = rows[r] := by rw [Int.toNat_natCast, List.getD_eq_getElem?_getD, List.getElem?_eq_getElem hrl]; rfl
  have e2 : (i : Int) + 1 - 1 = (i : Int) := by omega
  rw [e1, e2]







set_option maxHeartbeats 6400000 in
theorem iWorst_t (es : List Int) (rows : List ByteArray) (l : List Blw) (A A2 A3 : Option Addr) (c c2 c3 : Nat) (w : World) (h : RdL w w.heap.size A 1 encInt es) (h2 : RdL w w.heap.size A2 1 encString rows) (h3 : RdL w w.heap.size A3 3 Blw.enc l) (hl : es.length ≤ 1048576) (hl2 : rows.length ≤ 1048576) (hl3 : l.length ≤ 1048576) (hs2 : ∀ x ∈ rows, String_small 1048576 x) (hc3 : l.length ≤ c3) (hp : base5 es rows l) (hall : goodTo es rows l es.length) :
    Calls Tryz.prog 6 #[.slice A es.length c, .slice A2 rows.length c2, .slice A3 l.length c3] w fun e w' => ∃ A' c', e = .returned (.tuple #[.slice A' (worstTo rows l es (sz0 rows) es.length).length c', .bool true]) ∧ OwnL w' w.heap.size w'.heap.size A' 1 encInt (worstTo rows l es (sz0 rows) es.length) ∧ Below w.heap.size w w' := by
  have HP := Lib.hid hp
  have HALL := Lib.hid hall
  have He := Lib.hid h
  have Hw := Lib.hid h2
  have Hb := Lib.hid h3
  have Hs2 := Lib.hid hs2
  have e1 := B_t hp.2.1
  have e2 := B_t hp.2.2.2.2
  have h400 := hp.1
  have hpos := hp.2.2.1
  have hle : l.length ≤ es.length := Nat.le_of_eq hp.2.2.2.1
  have hel : es.length ≤ l.length := Nat.le_of_eq hp.2.2.2.1.symm
  have hne : ((l.length : Int) != es.length) = false := by rw [bne_eq_false_iff_eq]; have := hp.2.2.2.1; omega
  have hn0 : ((rows.length : Int) == 0) = false := by rw [beq_eq_false_iff_ne]; omega
  obtain ⟨g0, of0, hA0, hg0, hc0⟩ := Hw.out.at hpos
  have s0 : w.cell? ⟨g0, of0, none⟩ = some (.string rows[0]) := hc0 0 _ rfl
  have hsz := sz0_eq rows hpos
  obtain ⟨t, ht⟩ : ∃ t, Hid (rows[0] = t) := ⟨_, Lib.hid rfl⟩
  rw [ht.out] at s0 hsz
  rw [hsz] at e2
  have Hsz := Lib.hid hsz
  have ht8 : t.size ≤ 8 := by have := (hp.2.1.2 0 hpos).1.2.1; rw [ht.out] at this; exact this
  subst hA0
  have hd4 : decide ((400 : Int) < (es.length : Int)) = false := decide_eq_false (by omega)
  clear h h2 h3 hs2 hp hall hc0 hsz
  go_enter Tryz.func6, Tryz.ntmps6
  go_wp2_with (first | (go_at_call 18; refine (goodRows_any rows _ _ _ Hw.out hl2 Hs2.out).mono ?_; rintro e w' ⟨rfl, rfl⟩) | (go_at_call 19; refine (calls_bool (iBlows_any (t.size : Int) l A3 c3 _ Hb.out hl3) e2).mono ?_; rintro e w1 ⟨rfl, hb1⟩; have s1 := (hb1.cell (p := ⟨g0, of0, none⟩) hg0).trans s0) | (refine wpList_make_cells rfl 24 _ rfl 3 _ 8 rfl Int_info rfl .i64 t.size rfl (by omega) (by omega) ?_; intro w2 hc2 hb2 hown2))
  have ho0 : OwnL w2 w1.heap.size (w1.heap.size + 1) (some ⟨w1.heap.size, 0, none⟩) 1 encInt (worstTo rows l es (sz0 rows) 0) := .inr ⟨w1.heap.size, _, rfl, Nat.le_refl _, by omega, by simp only [worstTo, List.length_replicate, Nat.mul_one, Hsz.out]; exact hc2, fun i hi j u hu => by
    have hj : j = 0 := by have := (List.getElem?_eq_some_iff.1 hu).1; simp [encInt] at this; exact this
    subst hj
    simp [worstTo, encInt] at hu
    exact hu⟩
  have HO0 := Lib.hid ho0
  have Hb1 := Lib.hid hb1
  have HB2 : Hid (Below w.heap.size w w2) := Lib.hid (hb1.trans (hb2.mono hb1.size))
  have hwg : w.heap.size ≤ w1.heap.size := hb1.size
  clear ho0 hc2 hown2 hb2 hb1 s0 s1
  go_loopw [47] (fun i wr => ∃ k : Nat, k ≤ es.length ∧ i = .int .i64 k ∧ OwnL wr w1.heap.size (w1.heap.size + 1) (some ⟨w1.heap.size, 0, none⟩) 1 encInt (worstTo rows l es (sz0 rows) k) ∧ Below w.heap.size w wr ∧ goodTo es rows l k) (fun i _ => es.length - (intOf i).toNat)
  case atStart => exact ⟨0, by omega, by rfl, HO0.out, HB2.out, fun j _ _ h => by omega⟩
  case round =>
    obtain ⟨k, hk, rfl, ho, hbl, hgd⟩ := hrel
    have Hgd := Lib.hid hgd
    have Ho := Lib.hid ho
    have Hbl := Lib.hid hbl
    have hgs := hbl.size
    clear ho hbl hgd
    by_cases hlt : k < es.length
    · have hlt3 : k < l.length := by omega
      by_cases hek : inB es[k] (-10000000) 10000000
      rotate_left
      · exact absurd (HALL.out k hlt hlt3 hlt).1 hek
      by_cases hxk : l[k].row < rows.length
      rotate_left
      · exact absurd (HALL.out k hlt hlt3 hlt).2 hxk
      have Hnx := Lib.hid (goodTo_succ Hgd.out hlt hlt3 hek hxk)
      obtain ⟨r, i, hr, x1, x2, x3, x4, x5, x6, x7, x8, x9, x10, x11, x12⟩ := worst_round HP.out hlt hlt3 hek hxk
      obtain ⟨ge, ofe, hAe, hge, hce⟩ := He.out.at hlt
      obtain ⟨gr, ofr, hAr, hgr, hcr⟩ := Hw.out.at hr
      obtain ⟨gb, ofb, hAb, hgb, hcb⟩ := Hb.out.at hlt3
      have hst := worstTo_step (rows := rows) (n := sz0 rows) (List.getElem?_eq_getElem hlt3) (List.getElem?_eq_getElem hlt)
      have hbd := worstTo_bd rows l es (sz0 rows) k (fun i hi hik => (Hgd.out i hi (by omega) hik).1) (bellIx rows l[k])
      have habs := absI_bd x12
      obtain ⟨e, he⟩ : ∃ e, Hid (es[k] = e) := ⟨_, Lib.hid rfl⟩
      obtain ⟨s, hs⟩ : ∃ s, Hid (rows[r] = s) := ⟨_, Lib.hid rfl⟩
      obtain ⟨x, hx⟩ : ∃ x, Hid (l[k] = x) := ⟨_, Lib.hid rfl⟩
      have q0 : wr.cell? ⟨ge, ofe + k, none⟩ = some (.int .i64 e) := (Hbl.out.cell (p := ⟨ge, ofe + k, none⟩) hge).trans (by have := hce 0 _ rfl; rw [Nat.mul_one, he.out] at this; exact this)
      have q1 : wr.cell? ⟨gr, ofr + r, none⟩ = some (.string s) := (Hbl.out.cell (p := ⟨gr, ofr + r, none⟩) hgr).trans (by have := hcr 0 _ rfl; rw [Nat.mul_one, hs.out] at this; exact this)
      have q2 : wr.cell? ⟨gb, ofb + k * 3, none⟩ = some (.int .i64 r) := (Hbl.out.cell (p := ⟨gb, ofb + k * 3, none⟩) hgb).trans (by have := hcb 0 _ rfl; rw [x1] at this; exact this)
      have q3 : wr.cell? ⟨gb, ofb + k * 3 + 1, none⟩ = some (.int .i64 ((i : Int) + 1)) := (Hbl.out.cell (p := ⟨gb, ofb + k * 3 + 1, none⟩) hgb).trans (by have := hcb 1 _ rfl; rw [x3] at this; exact this)
      have q4 : wr.cell? ⟨gb, ofb + k * 3 + 2, none⟩ = some (.int .i64 x.at_) := (Hbl.out.cell (p := ⟨gb, ofb + k * 3 + 2, none⟩) hgb).trans (by have := hcb 2 _ rfl; rw [hx.out] at this; exact this)
      have hge2 : ge < wr.heap.size := Nat.lt_of_lt_of_le hge hgs
      have hgr2 : gr < wr.heap.size := Nat.lt_of_lt_of_le hgr hgs
      have hgb2 : gb < wr.heap.size := Nat.lt_of_lt_of_le hgb hgs
      simp only [Option.some.injEq, Addr.mk.injEq, and_true] at hAr
      obtain ⟨rfl, rfl⟩ := hAr
      subst hAe hAb
      clear hek hxk
      rw [hs.out] at x5 x6 x7 x8 x11
      rw [he.out] at x12 hst habs
      rw [hx.out] at x11 hst hbd
      obtain ⟨v, hv⟩ : ∃ v : Nat, bat s i = 49 + (v : Int) := ⟨(bat s i - 49).toNat, by omega⟩
      have hbx : bellIx rows x = v := by rw [x11, hv]; omega
      have hvn : v < sz0 rows := by omega
      rw [hbx] at hst hbd
      have hlw := worstTo_len rows l es (sz0 rows) k
      have hcell := Ho.out.cellInt v (by rw [hlw]; exact hvn)
      have hgetv : (worstTo rows l es (sz0 rows) k).getD v 0 = (worstTo rows l es (sz0 rows) k)[v]'(by rw [hlw]; exact hvn) := by rw [List.getD_eq_getElem?_getD, List.getElem?_eq_getElem (by rw [hlw]; exact hvn)]; rfl
      obtain ⟨y, hy⟩ : ∃ y, Hid ((worstTo rows l es (sz0 rows) k).getD v 0 = y) := ⟨_, Lib.hid rfl⟩
      rw [← hgetv, hy.out] at hcell
      rw [hy.out] at hst hbd
      obtain ⟨z0, zf⟩ := hcell
      have Hst := Lib.hid hst
      have Hin := Lib.hid x12
      have Hv := Lib.hid hv
      have Hlw := Lib.hid (show v < (worstTo rows l es (sz0 rows) k).length by rw [hlw]; exact hvn)
      obtain ⟨hbd1, hbd2⟩ := hbd
      obtain ⟨habs1, habs2⟩ := habs
      have hyb : y ≤ 4000000000 := by omega
      clear x1 x3 hce hcr hcb hst x12 x11 hv hbx hlw hgetv hbd2
      have e9 := B_t Hin.out
      go_wp2_with (go_at_call 20; refine (within_any _ _ _ _).mono ?_; rintro e w' ⟨rfl, rfl⟩)
      have hvt : v < t.size := by rw [← Hsz.out]; exact hvn
      have hv2 := Hv.out
      have hw1 : IntKind.i64.wrap ((i : Int) + 1 - 1) = (i : Int) := by rw [show (i : Int) + 1 - 1 = (i : Int) from by omega]; exact IntWalk.i64_in _ (by omega)
      have hw2 : IntKind.u8.wrap (49 + (v : Int) - 49) = (v : Int) := by rw [show 49 + (v : Int) - 49 = (v : Int) from by omega]; unfold IntKind.wrap; simp [IntKind.bits, IntKind.signed]; omega
      have hw4 : IntKind.i64.wrap (i : Int) = (i : Int) := IntWalk.i64_in _ (by omega)
      have hw5 : IntKind.u8.wrap (v : Int) = (v : Int) := by unfold IntKind.wrap; simp [IntKind.bits, IntKind.signed]; omega
      have hw3 : IntKind.i64.wrap (y + absI e) = y + absI e := IntWalk.i64_in _ (by omega)
      have hix : ∀ W : World, (Instr.index 9 (.string s) (.int .i64 (i : Int))).run Tryz.prog W = .ok (.int .u8 (49 + (v : Int))) W := fun W => by rw [run_index_bat W _ s .i64 i rfl, if_pos ⟨by omega, by omega⟩, hv2]
      refine wp_region_still_tail 23 (by kernel_rfl) (by kernel_rfl) ?_
      simp only [List.take_succ_cons, List.take_zero, List.drop_succ_cons, List.drop_zero]
      repeat (first | still_call ((abs_any e _ Hin.out).mono (fun _ _ h => ⟨h.1, h.2.symm⟩)) | still_step)
      refine wpStill_nil ?_
      change wpList _ _ _ _ _ wr.drew
      have z0d : wr.drew.cell? ⟨w1.heap.size, v, none⟩ = some (.int .i64 y) := z0
      have zfd : wr.drew.frozen? ⟨w1.heap.size, v, none⟩ = false := zf
      have HOd : Hid (OwnL wr.drew w1.heap.size (w1.heap.size + 1) (some ⟨w1.heap.size, 0, none⟩) 1 encInt (worstTo rows l es (sz0 rows) k)) := Lib.hid (show OwnL wr w1.heap.size (w1.heap.size + 1) (some ⟨w1.heap.size, 0, none⟩) 1 encInt (worstTo rows l es (sz0 rows) k) from Ho.out)
      have HBd : Hid (Below w.heap.size w wr.drew) := Lib.hid Hbl.out.drew
      clear z0 zf
      generalize wr.drew = wd at *
      go_wp2
      go_roundw
      case rel => exact ⟨k + 1, by omega, by go_num, by rw [Hst.out]; exact HOd.out.setInt v Hlw.out (y + absI e), HBd.out.setCell (p := ⟨w1.heap.size, v, none⟩) hwg _, Hnx.out⟩
      case measure => simp [intOf]; omega
    · obtain rfl : k = es.length := by omega
      go_wp2
      go_ret2
      have hz := worstTo_len rows l es (sz0 rows) es.length
      have hlt9 : w1.heap.size + 1 ≤ wr.heap.size := by
        rcases Ho.out with h0 | ⟨g, f, hA, _, _, hc, _⟩
        · rw [h0] at hz; have := (HP.out.2.1.2 0 hpos).1.1; rw [ht.out] at this; have h9 := Hsz.out; simp at hz; omega
        · simp only [Option.some.injEq, Addr.mk.injEq, and_true] at hA; subst hA; exact hc.lt
      exact ⟨_, _, by rw [hz, Hsz.out]; rfl, Ho.out.mono hwg hlt9, Hbl.out⟩
set_option maxHeartbeats 6400000 in
theorem iWorst_g (es : List Int) (rows : List ByteArray) (l : List Blw) (A A2 A3 : Option Addr) (c c2 c3 : Nat) (w : World) (h : RdL w w.heap.size A 1 encInt es) (h2 : RdL w w.heap.size A2 1 encString rows) (h3 : RdL w w.heap.size A3 3 Blw.enc l) (hl : es.length ≤ 1048576) (hl2 : rows.length ≤ 1048576) (hl3 : l.length ≤ 1048576) (hs2 : ∀ x ∈ rows, String_small 1048576 x) (hc3 : l.length ≤ c3) (hp : base5 es rows l) (hall : ¬ goodTo es rows l es.length) :
    Calls Tryz.prog 6 #[.slice A es.length c, .slice A2 rows.length c2, .slice A3 l.length c3] w fun e w' => e = .returned (.tuple #[.slice none 0 0, .bool false]) ∧ Below w.heap.size w w' := by
  have HP := Lib.hid hp
  have HALL := Lib.hid hall
  have He := Lib.hid h
  have Hw := Lib.hid h2
  have Hb := Lib.hid h3
  have Hs2 := Lib.hid hs2
  have e1 := B_t hp.2.1
  have e2 := B_t hp.2.2.2.2
  have h400 := hp.1
  have hpos := hp.2.2.1
  have hle : l.length ≤ es.length := Nat.le_of_eq hp.2.2.2.1
  have hel : es.length ≤ l.length := Nat.le_of_eq hp.2.2.2.1.symm
  have hne : ((l.length : Int) != es.length) = false := by rw [bne_eq_false_iff_eq]; have := hp.2.2.2.1; omega
  have hn0 : ((rows.length : Int) == 0) = false := by rw [beq_eq_false_iff_ne]; omega
  obtain ⟨g0, of0, hA0, hg0, hc0⟩ := Hw.out.at hpos
  have s0 : w.cell? ⟨g0, of0, none⟩ = some (.string rows[0]) := hc0 0 _ rfl
  have hsz := sz0_eq rows hpos
  obtain ⟨t, ht⟩ : ∃ t, Hid (rows[0] = t) := ⟨_, Lib.hid rfl⟩
  rw [ht.out] at s0 hsz
  rw [hsz] at e2
  have Hsz := Lib.hid hsz
  have ht8 : t.size ≤ 8 := by have := (hp.2.1.2 0 hpos).1.2.1; rw [ht.out] at this; exact this
  subst hA0
  have hd4 : decide ((400 : Int) < (es.length : Int)) = false := decide_eq_false (by omega)
  clear h h2 h3 hs2 hp hall hc0 hsz
  go_enter Tryz.func6, Tryz.ntmps6
  go_wp2_with (first | (go_at_call 18; refine (goodRows_any rows _ _ _ Hw.out hl2 Hs2.out).mono ?_; rintro e w' ⟨rfl, rfl⟩) | (go_at_call 19; refine (calls_bool (iBlows_any (t.size : Int) l A3 c3 _ Hb.out hl3) e2).mono ?_; rintro e w1 ⟨rfl, hb1⟩; have s1 := (hb1.cell (p := ⟨g0, of0, none⟩) hg0).trans s0) | (refine wpList_make_cells rfl 24 _ rfl 3 _ 8 rfl Int_info rfl .i64 t.size rfl (by omega) (by omega) ?_; intro w2 hc2 hb2 hown2))
  have ho0 : OwnL w2 w1.heap.size (w1.heap.size + 1) (some ⟨w1.heap.size, 0, none⟩) 1 encInt (worstTo rows l es (sz0 rows) 0) := .inr ⟨w1.heap.size, _, rfl, Nat.le_refl _, by omega, by simp only [worstTo, List.length_replicate, Nat.mul_one, Hsz.out]; exact hc2, fun i hi j u hu => by
    have hj : j = 0 := by have := (List.getElem?_eq_some_iff.1 hu).1; simp [encInt] at this; exact this
    subst hj
    simp [worstTo, encInt] at hu
    exact hu⟩
  have HO0 := Lib.hid ho0
  have Hb1 := Lib.hid hb1
  have HB2 : Hid (Below w.heap.size w w2) := Lib.hid (hb1.trans (hb2.mono hb1.size))
  have hwg : w.heap.size ≤ w1.heap.size := hb1.size
  clear ho0 hc2 hown2 hb2 hb1 s0 s1
  go_loopw [47] (fun i wr => ∃ k : Nat, k ≤ es.length ∧ i = .int .i64 k ∧ OwnL wr w1.heap.size (w1.heap.size + 1) (some ⟨w1.heap.size, 0, none⟩) 1 encInt (worstTo rows l es (sz0 rows) k) ∧ Below w.heap.size w wr ∧ goodTo es rows l k) (fun i _ => es.length - (intOf i).toNat)
  case atStart => exact ⟨0, by omega, by rfl, HO0.out, HB2.out, fun j _ _ h => by omega⟩
  case round =>
    obtain ⟨k, hk, rfl, ho, hbl, hgd⟩ := hrel
    have Hgd := Lib.hid hgd
    have Ho := Lib.hid ho
    have Hbl := Lib.hid hbl
    have hgs := hbl.size
    clear ho hbl hgd
    by_cases hlt : k < es.length
    · have hlt3 : k < l.length := by omega
      by_cases hek : inB es[k] (-10000000) 10000000
      rotate_left
      · have e9 := B_f hek
        obtain ⟨ge, ofe, hAe, hge, hce⟩ := He.out.at hlt
        obtain ⟨e, he⟩ : ∃ e, Hid (es[k] = e) := ⟨_, Lib.hid rfl⟩
        have q0 : wr.cell? ⟨ge, ofe + k, none⟩ = some (.int .i64 e) := (Hbl.out.cell (p := ⟨ge, ofe + k, none⟩) hge).trans (by have := hce 0 _ rfl; rw [Nat.mul_one, he.out] at this; exact this)
        subst hAe
        rw [he.out] at e9
        clear hek hce
        go_wp2_with (go_at_call 20; refine (within_any _ _ _ _).mono ?_; rintro e w' ⟨rfl, rfl⟩)
        go_ret2
        exact ⟨rfl, Hbl.out⟩
      by_cases hxk : l[k].row < rows.length
      rotate_left
      · have e9 := B_t hek
        obtain ⟨ge, ofe, hAe, hge, hce⟩ := He.out.at hlt
        obtain ⟨gb, ofb, hAb, hgb, hcb⟩ := Hb.out.at hlt3
        obtain ⟨e, he⟩ : ∃ e, Hid (es[k] = e) := ⟨_, Lib.hid rfl⟩
        obtain ⟨x, hx⟩ : ∃ x, Hid (l[k] = x) := ⟨_, Lib.hid rfl⟩
        have q0 : wr.cell? ⟨ge, ofe + k, none⟩ = some (.int .i64 e) := (Hbl.out.cell (p := ⟨ge, ofe + k, none⟩) hge).trans (by have := hce 0 _ rfl; rw [Nat.mul_one, he.out] at this; exact this)
        have q2 : wr.cell? ⟨gb, ofb + k * 3, none⟩ = some (.int .i64 x.row) := (Hbl.out.cell (p := ⟨gb, ofb + k * 3, none⟩) hgb).trans (by have := hcb 0 _ rfl; rw [hx.out] at this; exact this)
        subst hAe hAb
        rw [he.out] at e9
        rw [hx.out] at hxk
        have hxk2 : (rows.length : Int) ≤ x.row := by omega
        clear hek hce hcb hxk
        go_wp2_with (go_at_call 20; refine (within_any _ _ _ _).mono ?_; rintro e w' ⟨rfl, rfl⟩)
        go_ret2
        exact ⟨rfl, Hbl.out⟩
      have Hnx := Lib.hid (goodTo_succ Hgd.out hlt hlt3 hek hxk)
      obtain ⟨r, i, hr, x1, x2, x3, x4, x5, x6, x7, x8, x9, x10, x11, x12⟩ := worst_round HP.out hlt hlt3 hek hxk
      obtain ⟨ge, ofe, hAe, hge, hce⟩ := He.out.at hlt
      obtain ⟨gr, ofr, hAr, hgr, hcr⟩ := Hw.out.at hr
      obtain ⟨gb, ofb, hAb, hgb, hcb⟩ := Hb.out.at hlt3
      have hst := worstTo_step (rows := rows) (n := sz0 rows) (List.getElem?_eq_getElem hlt3) (List.getElem?_eq_getElem hlt)
      have hbd := worstTo_bd rows l es (sz0 rows) k (fun i hi hik => (Hgd.out i hi (by omega) hik).1) (bellIx rows l[k])
      have habs := absI_bd x12
      obtain ⟨e, he⟩ : ∃ e, Hid (es[k] = e) := ⟨_, Lib.hid rfl⟩
      obtain ⟨s, hs⟩ : ∃ s, Hid (rows[r] = s) := ⟨_, Lib.hid rfl⟩
      obtain ⟨x, hx⟩ : ∃ x, Hid (l[k] = x) := ⟨_, Lib.hid rfl⟩
      have q0 : wr.cell? ⟨ge, ofe + k, none⟩ = some (.int .i64 e) := (Hbl.out.cell (p := ⟨ge, ofe + k, none⟩) hge).trans (by have := hce 0 _ rfl; rw [Nat.mul_one, he.out] at this; exact this)
      have q1 : wr.cell? ⟨gr, ofr + r, none⟩ = some (.string s) := (Hbl.out.cell (p := ⟨gr, ofr + r, none⟩) hgr).trans (by have := hcr 0 _ rfl; rw [Nat.mul_one, hs.out] at this; exact this)
      have q2 : wr.cell? ⟨gb, ofb + k * 3, none⟩ = some (.int .i64 r) := (Hbl.out.cell (p := ⟨gb, ofb + k * 3, none⟩) hgb).trans (by have := hcb 0 _ rfl; rw [x1] at this; exact this)
      have q3 : wr.cell? ⟨gb, ofb + k * 3 + 1, none⟩ = some (.int .i64 ((i : Int) + 1)) := (Hbl.out.cell (p := ⟨gb, ofb + k * 3 + 1, none⟩) hgb).trans (by have := hcb 1 _ rfl; rw [x3] at this; exact this)
      have q4 : wr.cell? ⟨gb, ofb + k * 3 + 2, none⟩ = some (.int .i64 x.at_) := (Hbl.out.cell (p := ⟨gb, ofb + k * 3 + 2, none⟩) hgb).trans (by have := hcb 2 _ rfl; rw [hx.out] at this; exact this)
      have hge2 : ge < wr.heap.size := Nat.lt_of_lt_of_le hge hgs
      have hgr2 : gr < wr.heap.size := Nat.lt_of_lt_of_le hgr hgs
      have hgb2 : gb < wr.heap.size := Nat.lt_of_lt_of_le hgb hgs
      simp only [Option.some.injEq, Addr.mk.injEq, and_true] at hAr
      obtain ⟨rfl, rfl⟩ := hAr
      subst hAe hAb
      clear hek hxk
      rw [hs.out] at x5 x6 x7 x8 x11
      rw [he.out] at x12 hst habs
      rw [hx.out] at x11 hst hbd
      obtain ⟨v, hv⟩ : ∃ v : Nat, bat s i = 49 + (v : Int) := ⟨(bat s i - 49).toNat, by omega⟩
      have hbx : bellIx rows x = v := by rw [x11, hv]; omega
      have hvn : v < sz0 rows := by omega
      rw [hbx] at hst hbd
      have hlw := worstTo_len rows l es (sz0 rows) k
      have hcell := Ho.out.cellInt v (by rw [hlw]; exact hvn)
      have hgetv : (worstTo rows l es (sz0 rows) k).getD v 0 = (worstTo rows l es (sz0 rows) k)[v]'(by rw [hlw]; exact hvn) := by rw [List.getD_eq_getElem?_getD, List.getElem?_eq_getElem (by rw [hlw]; exact hvn)]; rfl
      obtain ⟨y, hy⟩ : ∃ y, Hid ((worstTo rows l es (sz0 rows) k).getD v 0 = y) := ⟨_, Lib.hid rfl⟩
      rw [← hgetv, hy.out] at hcell
      rw [hy.out] at hst hbd
      obtain ⟨z0, zf⟩ := hcell
      have Hst := Lib.hid hst
      have Hin := Lib.hid x12
      have Hv := Lib.hid hv
      have Hlw := Lib.hid (show v < (worstTo rows l es (sz0 rows) k).length by rw [hlw]; exact hvn)
      obtain ⟨hbd1, hbd2⟩ := hbd
      obtain ⟨habs1, habs2⟩ := habs
      have hyb : y ≤ 4000000000 := by omega
      clear x1 x3 hce hcr hcb hst x12 x11 hv hbx hlw hgetv hbd2
      have e9 := B_t Hin.out
      go_wp2_with (go_at_call 20; refine (within_any _ _ _ _).mono ?_; rintro e w' ⟨rfl, rfl⟩)
      have hvt : v < t.size := by rw [← Hsz.out]; exact hvn
      have hv2 := Hv.out
      have hw1 : IntKind.i64.wrap ((i : Int) + 1 - 1) = (i : Int) := by rw [show (i : Int) + 1 - 1 = (i : Int) from by omega]; exact IntWalk.i64_in _ (by omega)
      have hw2 : IntKind.u8.wrap (49 + (v : Int) - 49) = (v : Int) := by rw [show 49 + (v : Int) - 49 = (v : Int) from by omega]; unfold IntKind.wrap; simp [IntKind.bits, IntKind.signed]; omega
      have hw4 : IntKind.i64.wrap (i : Int) = (i : Int) := IntWalk.i64_in _ (by omega)
      have hw5 : IntKind.u8.wrap (v : Int) = (v : Int) := by unfold IntKind.wrap; simp [IntKind.bits, IntKind.signed]; omega
      have hw3 : IntKind.i64.wrap (y + absI e) = y + absI e := IntWalk.i64_in _ (by omega)
      have hix : ∀ W : World, (Instr.index 9 (.string s) (.int .i64 (i : Int))).run Tryz.prog W = .ok (.int .u8 (49 + (v : Int))) W := fun W => by rw [run_index_bat W _ s .i64 i rfl, if_pos ⟨by omega, by omega⟩, hv2]
      refine wp_region_still_tail 23 (by kernel_rfl) (by kernel_rfl) ?_
      simp only [List.take_succ_cons, List.take_zero, List.drop_succ_cons, List.drop_zero]
      repeat (first | still_call ((abs_any e _ Hin.out).mono (fun _ _ h => ⟨h.1, h.2.symm⟩)) | still_step)
      refine wpStill_nil ?_
      change wpList _ _ _ _ _ wr.drew
      have z0d : wr.drew.cell? ⟨w1.heap.size, v, none⟩ = some (.int .i64 y) := z0
      have zfd : wr.drew.frozen? ⟨w1.heap.size, v, none⟩ = false := zf
      have HOd : Hid (OwnL wr.drew w1.heap.size (w1.heap.size + 1) (some ⟨w1.heap.size, 0, none⟩) 1 encInt (worstTo rows l es (sz0 rows) k)) := Lib.hid (show OwnL wr w1.heap.size (w1.heap.size + 1) (some ⟨w1.heap.size, 0, none⟩) 1 encInt (worstTo rows l es (sz0 rows) k) from Ho.out)
      have HBd : Hid (Below w.heap.size w wr.drew) := Lib.hid Hbl.out.drew
      clear z0 zf
      generalize wr.drew = wd at *
      go_wp2
      go_roundw
      case rel => exact ⟨k + 1, by omega, by go_num, by rw [Hst.out]; exact HOd.out.setInt v Hlw.out (y + absI e), HBd.out.setCell (p := ⟨w1.heap.size, v, none⟩) hwg _, Hnx.out⟩
      case measure => simp [intOf]; omega
    · obtain rfl : k = es.length := by omega
      exact absurd Hgd.out HALL.out


set_option maxHeartbeats 1600000 in
theorem iWorst_n (es : List Int) (rows : List ByteArray) (l : List Blw) (A A2 A3 : Option Addr) (c c2 c3 : Nat) (w : World) (h : RdL w w.heap.size A 1 encInt es) (h2 : RdL w w.heap.size A2 1 encString rows) (h3 : RdL w w.heap.size A3 3 Blw.enc l) (hl : es.length ≤ 1048576) (hl2 : rows.length ≤ 1048576) (hl3 : l.length ≤ 1048576) (hs2 : ∀ x ∈ rows, String_small 1048576 x) (hc3 : l.length ≤ c3) (hp : ¬ base5 es rows l) :
    Calls Tryz.prog 6 #[.slice A es.length c, .slice A2 rows.length c2, .slice A3 l.length c3] w fun e w' => e = .returned (.tuple #[.slice none 0 0, .bool false]) ∧ Below w.heap.size w w' := by
  have He := Lib.hid h
  have Hw := Lib.hid h2
  have Hb := Lib.hid h3
  have Hs2 := Lib.hid hs2
  clear h h2 h3 hs2
  by_cases k1 : es.length ≤ 400
  rotate_left
  · have hd4 : decide ((400 : Int) < (es.length : Int)) = true := decide_eq_true (by omega)
    clear hp
    go_enter Tryz.func6, Tryz.ntmps6
    go_wp2_with (first | (go_at_call 18; refine (goodRows_any rows _ _ _ Hw.out hl2 Hs2.out).mono ?_; rintro e w' ⟨rfl, rfl⟩) | (go_at_call 19; refine (calls_bool (iBlows_any (t.size : Int) l A3 c3 _ Hb.out hl3) e2).mono ?_; rintro e w1 ⟨rfl, hb1⟩))
    go_ret2
    exact ⟨rfl, Below.refl _ _⟩
  have hd4 : decide ((400 : Int) < (es.length : Int)) = false := decide_eq_false (by omega)
  by_cases k2 : rowsP rows
  rotate_left
  · have e1 := B_f k2
    clear hp k2
    go_enter Tryz.func6, Tryz.ntmps6
    go_wp2_with (first | (go_at_call 18; refine (goodRows_any rows _ _ _ Hw.out hl2 Hs2.out).mono ?_; rintro e w' ⟨rfl, rfl⟩) | (go_at_call 19; refine (calls_bool (iBlows_any (t.size : Int) l A3 c3 _ Hb.out hl3) e2).mono ?_; rintro e w1 ⟨rfl, hb1⟩))
    go_ret2
    exact ⟨rfl, Below.refl _ _⟩
  have e1 := B_t k2
  by_cases k3 : 0 < rows.length
  rotate_left
  · have hn0 : ((rows.length : Int) == 0) = true := by rw [beq_iff_eq]; omega
    clear hp k2
    go_enter Tryz.func6, Tryz.ntmps6
    go_wp2_with (first | (go_at_call 18; refine (goodRows_any rows _ _ _ Hw.out hl2 Hs2.out).mono ?_; rintro e w' ⟨rfl, rfl⟩) | (go_at_call 19; refine (calls_bool (iBlows_any (t.size : Int) l A3 c3 _ Hb.out hl3) e2).mono ?_; rintro e w1 ⟨rfl, hb1⟩))
    go_ret2
    exact ⟨rfl, Below.refl _ _⟩
  have hn0 : ((rows.length : Int) == 0) = false := by rw [beq_eq_false_iff_ne]; omega
  by_cases k4 : l.length = es.length
  rotate_left
  · have hne : ((l.length : Int) != es.length) = true := by rw [bne_iff_ne]; omega
    clear hp k2 k4
    go_enter Tryz.func6, Tryz.ntmps6
    go_wp2_with (first | (go_at_call 18; refine (goodRows_any rows _ _ _ Hw.out hl2 Hs2.out).mono ?_; rintro e w' ⟨rfl, rfl⟩) | (go_at_call 19; refine (calls_bool (iBlows_any (t.size : Int) l A3 c3 _ Hb.out hl3) e2).mono ?_; rintro e w1 ⟨rfl, hb1⟩))
    go_ret2
    exact ⟨rfl, Below.refl _ _⟩
  have hne : ((l.length : Int) != es.length) = false := by rw [bne_eq_false_iff_eq]; omega
  have k5 : ¬ blowsP (sz0 rows) l := fun h => hp ⟨k1, k2, k3, k4, h⟩
  have e2 := B_f k5
  obtain ⟨g0, of0, hA0, hg0, hc0⟩ := Hw.out.at k3
  have s0 : w.cell? ⟨g0, of0, none⟩ = some (.string rows[0]) := hc0 0 _ rfl
  have hsz := sz0_eq rows k3
  obtain ⟨t, ht⟩ : ∃ t, Hid (rows[0] = t) := ⟨_, Lib.hid rfl⟩
  rw [ht.out] at s0 hsz
  rw [hsz] at e2
  subst hA0
  clear hp k2 k4 k5 hc0 hsz
  go_enter Tryz.func6, Tryz.ntmps6
  go_wp2_with (first | (go_at_call 18; refine (goodRows_any rows _ _ _ Hw.out hl2 Hs2.out).mono ?_; rintro e w' ⟨rfl, rfl⟩) | (go_at_call 19; refine (calls_bool (iBlows_any (t.size : Int) l A3 c3 _ Hb.out hl3) e2).mono ?_; rintro e w1 ⟨rfl, hb1⟩))
  go_ret2
  exact ⟨rfl, hb1⟩
theorem iWorst_f (es : List Int) (rows : List ByteArray) (l : List Blw) (A A2 A3 : Option Addr) (c c2 c3 : Nat) (w : World) (h : RdL w w.heap.size A 1 encInt es) (h2 : RdL w w.heap.size A2 1 encString rows) (h3 : RdL w w.heap.size A3 3 Blw.enc l) (hl : es.length ≤ 1048576) (hl2 : rows.length ≤ 1048576) (hl3 : l.length ≤ 1048576) (hs2 : ∀ x ∈ rows, String_small 1048576 x) (hc3 : l.length ≤ c3) (hp : ¬ worstP es rows l) :
    Calls Tryz.prog 6 #[.slice A es.length c, .slice A2 rows.length c2, .slice A3 l.length c3] w fun e w' => e = .returned (.tuple #[.slice none 0 0, .bool false]) ∧ Below w.heap.size w w' := by
  by_cases hb : base5 es rows l
  · exact iWorst_g es rows l A A2 A3 c c2 c3 w h h2 h3 hl hl2 hl3 hs2 hc3 hb (fun hg => hp ⟨hb, hg⟩)
  · exact iWorst_n es rows l A A2 A3 c c2 c3 w h h2 h3 hl hl2 hl3 hs2 hc3 hb
def valsP (es : List Int) : Prop := es.length ≤ 400 ∧ allIn es (-10000000) 10000000
theorem l23ValuesW_any (es : List Int) (A : Option Addr) (c : Nat) (w : World) (h : RdL w w.heap.size A 1 encInt es) (hl : es.length ≤ 1048576) :
    Calls Tryz.prog 22 #[.slice A es.length c] w fun e w' => e = .returned (.bool (B (valsP es))) ∧ w = w' := by
  have H := Lib.hid h
  clear h
  by_cases k1 : es.length ≤ 400
  · have hd : decide ((es.length : Int) ≤ 400) = true := decide_eq_true (by omega)
    by_cases k2 : allIn es (-10000000) 10000000
    · have e1 := B_t k2
      have K2 := Lib.hid k2
      clear k2
      go_enter Tryz.func22, Tryz.ntmps22
      go_wp2_with (go_at_call 51; refine (l1All_any es A c (-10000000) 10000000 _ H.out (by omega)).mono ?_; rintro e w' ⟨rfl, rfl⟩)
      go_ret
      exact ⟨ret_t ⟨k1, K2.out⟩, rfl⟩
    · have e1 := B_f k2
      have K2 := Lib.hid k2
      clear k2
      go_enter Tryz.func22, Tryz.ntmps22
      go_wp2_with (go_at_call 51; refine (l1All_any es A c (-10000000) 10000000 _ H.out (by omega)).mono ?_; rintro e w' ⟨rfl, rfl⟩)
      go_ret
      exact ⟨ret_f (fun h => K2.out h.2), rfl⟩
  · have hd : decide ((es.length : Int) ≤ 400) = false := decide_eq_false (by omega)
    go_enter Tryz.func22, Tryz.ntmps22
    go_wp2
    go_ret
    exact ⟨ret_f (fun h => k1 h.1), rfl⟩




set_option maxHeartbeats 6400000 in
theorem sWorst_t (es : List Int) (rows : List ByteArray) (l : List Blw) (A A2 A3 : Option Addr) (c c2 c3 : Nat) (w : World) (h : RdL w w.heap.size A 1 encInt es) (h2 : RdL w w.heap.size A2 1 encString rows) (h3 : RdL w w.heap.size A3 3 Blw.enc l) (hl : es.length ≤ 1048576) (hl2 : rows.length ≤ 1048576) (hl3 : l.length ≤ 1048576) (hs2 : ∀ x ∈ rows, String_small 1048576 x) (hc3 : l.length ≤ c3) (hp : base5 es rows l) (hes : allIn es (-10000000) 10000000) (hall : goodTo es rows l es.length) :
    Calls Tryz.prog 7 #[.slice A es.length c, .slice A2 rows.length c2, .slice A3 l.length c3] w fun e w' => ∃ A' c', e = .returned (.tuple #[.slice A' (worstTo rows l es (sz0 rows) es.length).length c', .bool true]) ∧ OwnL w' w.heap.size w'.heap.size A' 1 encInt (worstTo rows l es (sz0 rows) es.length) ∧ Below w.heap.size w w' := by
  have HP := Lib.hid hp
  have HALL := Lib.hid hall
  have HES := Lib.hid hes
  have He := Lib.hid h
  have Hw := Lib.hid h2
  have Hb := Lib.hid h3
  have Hs2 := Lib.hid hs2
  have e0 : B (valsP es) = true := B_t ⟨hp.1, hes⟩
  have e1 := B_t hp.2.1
  have e2 := B_t hp.2.2.2.2
  have h400 := hp.1
  have hpos := hp.2.2.1
  have hle : l.length ≤ es.length := Nat.le_of_eq hp.2.2.2.1
  have hel : es.length ≤ l.length := Nat.le_of_eq hp.2.2.2.1.symm
  have hne : ((l.length : Int) != es.length) = false := by rw [bne_eq_false_iff_eq]; have := hp.2.2.2.1; omega
  have hn0 : ((rows.length : Int) == 0) = false := by rw [beq_eq_false_iff_ne]; omega
  obtain ⟨g0, of0, hA0, hg0, hc0⟩ := Hw.out.at hpos
  have s0 : w.cell? ⟨g0, of0, none⟩ = some (.string rows[0]) := hc0 0 _ rfl
  have hsz := sz0_eq rows hpos
  obtain ⟨t, ht⟩ : ∃ t, Hid (rows[0] = t) := ⟨_, Lib.hid rfl⟩
  rw [ht.out] at s0 hsz
  rw [hsz] at e2
  have Hsz := Lib.hid hsz
  have ht8 : t.size ≤ 8 := by have := (hp.2.1.2 0 hpos).1.2.1; rw [ht.out] at this; exact this
  subst hA0
  clear h h2 h3 hs2 hp hes hall hc0 hsz
  go_enter Tryz.func7, Tryz.ntmps7
  go_wp2_with (first | (go_at_call 22; refine (l23ValuesW_any es A c _ He.out hl).mono ?_; rintro e w' ⟨rfl, rfl⟩) | (go_at_call 23; refine (l6Rows_any rows _ _ _ Hw.out hl2 Hs2.out).mono ?_; rintro e w' ⟨rfl, n1, rfl⟩) | (go_at_call 24; refine (calls_bool (l23Good_any (t.size : Int) l A3 c3 _ (Hb.out.drewN n1) hl3 hc3) e2).mono ?_; rintro e w1 ⟨rfl, hb1'⟩; have hb1 : Below w.heap.size w w1 := (below_drewN (Below.refl _ _) n1).trans hb1'; have s1 := (hb1.cell (p := ⟨g0, of0, none⟩) hg0).trans s0) | (refine wpList_make_cells rfl 24 _ rfl 3 _ 8 rfl Int_info rfl .i64 t.size rfl (by omega) (by omega) ?_; intro w2 hc2 hb2 hown2))
  have ho0 : OwnL w2 w1.heap.size (w1.heap.size + 1) (some ⟨w1.heap.size, 0, none⟩) 1 encInt (worstTo rows l es (sz0 rows) 0) := .inr ⟨w1.heap.size, _, rfl, Nat.le_refl _, by omega, by simp only [worstTo, List.length_replicate, Nat.mul_one, Hsz.out]; exact hc2, fun i hi j u hu => by
    have hj : j = 0 := by have := (List.getElem?_eq_some_iff.1 hu).1; simp [encInt] at this; exact this
    subst hj
    simp [worstTo, encInt] at hu
    exact hu⟩
  have HO0 := Lib.hid ho0
  have Hb1 := Lib.hid hb1
  have HB2 : Hid (Below w.heap.size w w2) := Lib.hid (hb1.trans (hb2.mono hb1.size))
  have hwg : w.heap.size ≤ w1.heap.size := hb1.size
  have hw12 : w1.heap.size + 1 ≤ w2.heap.size := by
    rcases HO0.out with h0 | ⟨g, f, hA, _, _, hc, _⟩
    · have hz := worstTo_len rows l es (sz0 rows) 0
      rw [h0] at hz; have := (HP.out.2.1.2 0 hpos).1.1; rw [ht.out] at this; have h9 := Hsz.out; simp at hz; omega
    · simp only [Option.some.injEq, Addr.mk.injEq, and_true] at hA; subst hA; exact hc.lt
  clear ho0 hc2 hown2 hb2 hb1 hb1' s0 s1
  go_loopw [47] (fun i wr => ∃ k : Nat, k ≤ l.length ∧ i = .int .i64 k ∧ OwnL wr w1.heap.size (w1.heap.size + 1) (some ⟨w1.heap.size, 0, none⟩) 1 encInt (worstTo rows l es (sz0 rows) k) ∧ Below w.heap.size w wr ∧ goodTo es rows l k ∧ w1.heap.size + 1 ≤ wr.heap.size) (fun i _ => l.length - (intOf i).toNat)
  case atStart => exact ⟨0, by omega, by rfl, HO0.out, HB2.out, fun j _ _ h => by omega, hw12⟩
  case round =>
    obtain ⟨k, hk, rfl, ho, hbl, hgd, hz9⟩ := hrel
    have Hgd := Lib.hid hgd
    have Ho := Lib.hid ho
    have Hbl := Lib.hid hbl
    have hgs := hbl.size
    clear ho hbl hgd
    by_cases hlt3 : k < l.length
    · have hlt : k < es.length := by omega
      have hek : inB es[k] (-10000000) 10000000 := HES.out _ (List.getElem_mem hlt)
      by_cases hxk : l[k].row < rows.length
      rotate_left
      · exact absurd (HALL.out k hlt hlt3 hlt).2 hxk
      have Hnx := Lib.hid (goodTo_succ Hgd.out hlt hlt3 hek hxk)
      obtain ⟨r, i, hr, x1, x2, x3, x4, x5, x6, x7, x8, x9, x10, x11, x12⟩ := worst_round HP.out hlt hlt3 hek hxk
      obtain ⟨ge, ofe, hAe, hge, hce⟩ := He.out.at hlt
      obtain ⟨gr, ofr, hAr, hgr, hcr⟩ := Hw.out.at hr
      obtain ⟨gb, ofb, hAb, hgb, hcb⟩ := Hb.out.at hlt3
      have hst := worstTo_step (rows := rows) (n := sz0 rows) (List.getElem?_eq_getElem hlt3) (List.getElem?_eq_getElem hlt)
      have hbd := worstTo_bd rows l es (sz0 rows) k (fun i hi hik => (Hgd.out i hi (by omega) hik).1) (bellIx rows l[k])
      have habs := absI_bd x12
      obtain ⟨e, he⟩ : ∃ e, Hid (es[k] = e) := ⟨_, Lib.hid rfl⟩
      obtain ⟨s, hs⟩ : ∃ s, Hid (rows[r] = s) := ⟨_, Lib.hid rfl⟩
      obtain ⟨x, hx⟩ : ∃ x, Hid (l[k] = x) := ⟨_, Lib.hid rfl⟩
      have q0 : wr.cell? ⟨ge, ofe + k, none⟩ = some (.int .i64 e) := (Hbl.out.cell (p := ⟨ge, ofe + k, none⟩) hge).trans (by have := hce 0 _ rfl; rw [Nat.mul_one, he.out] at this; exact this)
      have q1 : wr.cell? ⟨gr, ofr + r, none⟩ = some (.string s) := (Hbl.out.cell (p := ⟨gr, ofr + r, none⟩) hgr).trans (by have := hcr 0 _ rfl; rw [Nat.mul_one, hs.out] at this; exact this)
      have q2 : wr.cell? ⟨gb, ofb + k * 3, none⟩ = some (.int .i64 r) := (Hbl.out.cell (p := ⟨gb, ofb + k * 3, none⟩) hgb).trans (by have := hcb 0 _ rfl; rw [x1] at this; exact this)
      have q3 : wr.cell? ⟨gb, ofb + k * 3 + 1, none⟩ = some (.int .i64 ((i : Int) + 1)) := (Hbl.out.cell (p := ⟨gb, ofb + k * 3 + 1, none⟩) hgb).trans (by have := hcb 1 _ rfl; rw [x3] at this; exact this)
      have q4 : wr.cell? ⟨gb, ofb + k * 3 + 2, none⟩ = some (.int .i64 x.at_) := (Hbl.out.cell (p := ⟨gb, ofb + k * 3 + 2, none⟩) hgb).trans (by have := hcb 2 _ rfl; rw [hx.out] at this; exact this)
      have hge2 : ge < wr.heap.size := Nat.lt_of_lt_of_le hge hgs
      have hgr2 : gr < wr.heap.size := Nat.lt_of_lt_of_le hgr hgs
      have hgb2 : gb < wr.heap.size := Nat.lt_of_lt_of_le hgb hgs
      simp only [Option.some.injEq, Addr.mk.injEq, and_true] at hAr
      obtain ⟨rfl, rfl⟩ := hAr
      subst hAe hAb
      clear hek hxk
      rw [hs.out] at x5 x6 x7 x8 x11
      rw [he.out] at x12 hst habs
      rw [hx.out] at x11 hst hbd
      obtain ⟨v, hv⟩ : ∃ v : Nat, bat s i = 49 + (v : Int) := ⟨(bat s i - 49).toNat, by omega⟩
      have hbx : bellIx rows x = v := by rw [x11, hv]; omega
      have hvn : v < sz0 rows := by omega
      rw [hbx] at hst hbd
      have hlw := worstTo_len rows l es (sz0 rows) k
      have hcell := Ho.out.cellInt v (by rw [hlw]; exact hvn)
      have hgetv : (worstTo rows l es (sz0 rows) k).getD v 0 = (worstTo rows l es (sz0 rows) k)[v]'(by rw [hlw]; exact hvn) := by rw [List.getD_eq_getElem?_getD, List.getElem?_eq_getElem (by rw [hlw]; exact hvn)]; rfl
      obtain ⟨y, hy⟩ : ∃ y, Hid ((worstTo rows l es (sz0 rows) k).getD v 0 = y) := ⟨_, Lib.hid rfl⟩
      rw [← hgetv, hy.out] at hcell
      rw [hy.out] at hst hbd
      obtain ⟨z0, zf⟩ := hcell
      have Hst := Lib.hid hst
      have Hin := Lib.hid x12
      have Hv := Lib.hid hv
      have Hlw := Lib.hid (show v < (worstTo rows l es (sz0 rows) k).length by rw [hlw]; exact hvn)
      obtain ⟨hbd1, hbd2⟩ := hbd
      obtain ⟨habs1, habs2⟩ := habs
      have hyb : y ≤ 4000000000 := by omega
      clear x1 x3 hce hcr hcb hst x12 x11 hv hbx hlw hgetv hbd2
      have hvt : v < t.size := by rw [← Hsz.out]; exact hvn
      have hat : Hid (∀ W : World, Calls Tryz.prog 25 #[.string s, .int .i64 ((i : Int) + 1)] W fun e w' => e = .returned (.int .i64 ((v : Int) + 1)) ∧ w' = W) := Lib.hid (fun W => (l1At_any s ((i : Int) + 1) W (by omega) (by omega) (by omega) (by rw [show (i : Int) + 1 - 1 = (i : Int) from by omega, Hv.out]; omega)).mono (fun e w' h => ⟨by rw [h.1]; exact ret_int (by rw [show (i : Int) + 1 - 1 = (i : Int) from by omega, Hv.out]; omega), h.2.symm⟩))
      have hw4 : IntKind.i64.wrap (v : Int) = (v : Int) := IntWalk.i64_in _ (by omega)
      have hw5 : IntKind.i64.wrap ((v : Int) + 1 - 1) = (v : Int) := by rw [show (v : Int) + 1 - 1 = (v : Int) from by omega]; exact hw4
      have hw3 : IntKind.i64.wrap (y + absI e) = y + absI e := IntWalk.i64_in _ (by omega)
      have hlw9 : w1.heap.size < wr.heap.size := by omega
      go_wp2
      have HW9 : Hid (Below wr.heap.size wr (wr.alloc (.cells #[.int .i64 r, .int .i64 ((i : Int) + 1), .int .i64 x.at_] 43))) := Lib.hid ((Below.refl _ _).alloc (Nat.le_refl _) _)
      have p0 := (HW9.out.cell (p := ⟨ge, ofe + k, none⟩) hge2).trans q0
      have p1 := (HW9.out.cell (p := ⟨g0, of0 + r, none⟩) hgr2).trans q1
      have b0 : (wr.alloc (.cells #[.int .i64 r, .int .i64 ((i : Int) + 1), .int .i64 x.at_] 43)).cell? ⟨wr.heap.size, 0, none⟩ = some (.int .i64 r) := by simp [go_sem]
      have b1 : (wr.alloc (.cells #[.int .i64 r, .int .i64 ((i : Int) + 1), .int .i64 x.at_] 43)).cell? ⟨wr.heap.size, 1, none⟩ = some (.int .i64 ((i : Int) + 1)) := by simp [go_sem]
      have zz := (HW9.out.cell (p := ⟨w1.heap.size, v, none⟩) hlw9).trans z0
      have zzf := (HW9.out.frozen (p := ⟨w1.heap.size, v, none⟩) hlw9).trans zf
      have HOd := Lib.hid (Ho.out.later HW9.out)
      have HBd := Lib.hid (Hbl.out.trans (HW9.out.mono hgs))
      have hzd := HW9.out.size
      clear z0 zf HW9 q0 q1 q2 q3 q4
      generalize (wr.alloc (.cells #[.int .i64 r, .int .i64 ((i : Int) + 1), .int .i64 x.at_] 43)) = W9 at *
      refine wp_region_still_tail 19 (by kernel_rfl) (by kernel_rfl) ?_
      simp only [List.take_succ_cons, List.take_zero, List.drop_succ_cons, List.drop_zero]
      repeat (first | still_call (hat.out _) | still_call ((far0_any e _ Hin.out).mono (fun _ _ h => ⟨h.1, h.2.symm⟩)) | still_step)
      refine wpStill_nil ?_
      change wpList _ _ _ _ _ W9.drew
      have z0d : W9.drew.cell? ⟨w1.heap.size, v, none⟩ = some (.int .i64 y) := zz
      have zfd : W9.drew.frozen? ⟨w1.heap.size, v, none⟩ = false := zzf
      have HOd2 : Hid (OwnL W9.drew w1.heap.size (w1.heap.size + 1) (some ⟨w1.heap.size, 0, none⟩) 1 encInt (worstTo rows l es (sz0 rows) k)) := Lib.hid (show OwnL W9 w1.heap.size (w1.heap.size + 1) (some ⟨w1.heap.size, 0, none⟩) 1 encInt (worstTo rows l es (sz0 rows) k) from HOd.out)
      have HBd2 : Hid (Below w.heap.size w W9.drew) := Lib.hid HBd.out.drew
      have hzd2 : wr.heap.size ≤ W9.drew.heap.size := hzd
      clear zz zzf p0 p1 b0 b1
      generalize W9.drew = wd at *
      go_wp2
      go_roundw
      case rel => exact ⟨k + 1, by omega, by go_num, by rw [Hst.out]; exact HOd2.out.setInt v Hlw.out (y + absI e), HBd2.out.setCell (p := ⟨w1.heap.size, v, none⟩) hwg _, Hnx.out, by simp; omega⟩
      case measure => simp [intOf]; omega
    · have hke : k = es.length := by omega
      go_wp2
      go_ret2
      obtain rfl : k = es.length := hke
      have hz := worstTo_len rows l es (sz0 rows) es.length
      exact ⟨_, _, by rw [hz, Hsz.out]; rfl, Ho.out.mono hwg hz9, Hbl.out⟩
set_option maxHeartbeats 6400000 in
theorem sWorst_g (es : List Int) (rows : List ByteArray) (l : List Blw) (A A2 A3 : Option Addr) (c c2 c3 : Nat) (w : World) (h : RdL w w.heap.size A 1 encInt es) (h2 : RdL w w.heap.size A2 1 encString rows) (h3 : RdL w w.heap.size A3 3 Blw.enc l) (hl : es.length ≤ 1048576) (hl2 : rows.length ≤ 1048576) (hl3 : l.length ≤ 1048576) (hs2 : ∀ x ∈ rows, String_small 1048576 x) (hc3 : l.length ≤ c3) (hp : base5 es rows l) (hes : allIn es (-10000000) 10000000) (hall : ¬ goodTo es rows l es.length) :
    Calls Tryz.prog 7 #[.slice A es.length c, .slice A2 rows.length c2, .slice A3 l.length c3] w fun e w' => e = .returned (.tuple #[.slice none 0 0, .bool false]) ∧ Below w.heap.size w w' := by
  have HP := Lib.hid hp
  have HALL := Lib.hid hall
  have HES := Lib.hid hes
  have He := Lib.hid h
  have Hw := Lib.hid h2
  have Hb := Lib.hid h3
  have Hs2 := Lib.hid hs2
  have e0 : B (valsP es) = true := B_t ⟨hp.1, hes⟩
  have e1 := B_t hp.2.1
  have e2 := B_t hp.2.2.2.2
  have h400 := hp.1
  have hpos := hp.2.2.1
  have hle : l.length ≤ es.length := Nat.le_of_eq hp.2.2.2.1
  have hel : es.length ≤ l.length := Nat.le_of_eq hp.2.2.2.1.symm
  have hne : ((l.length : Int) != es.length) = false := by rw [bne_eq_false_iff_eq]; have := hp.2.2.2.1; omega
  have hn0 : ((rows.length : Int) == 0) = false := by rw [beq_eq_false_iff_ne]; omega
  obtain ⟨g0, of0, hA0, hg0, hc0⟩ := Hw.out.at hpos
  have s0 : w.cell? ⟨g0, of0, none⟩ = some (.string rows[0]) := hc0 0 _ rfl
  have hsz := sz0_eq rows hpos
  obtain ⟨t, ht⟩ : ∃ t, Hid (rows[0] = t) := ⟨_, Lib.hid rfl⟩
  rw [ht.out] at s0 hsz
  rw [hsz] at e2
  have Hsz := Lib.hid hsz
  have ht8 : t.size ≤ 8 := by have := (hp.2.1.2 0 hpos).1.2.1; rw [ht.out] at this; exact this
  subst hA0
  clear h h2 h3 hs2 hp hes hall hc0 hsz
  go_enter Tryz.func7, Tryz.ntmps7
  go_wp2_with (first | (go_at_call 22; refine (l23ValuesW_any es A c _ He.out hl).mono ?_; rintro e w' ⟨rfl, rfl⟩) | (go_at_call 23; refine (l6Rows_any rows _ _ _ Hw.out hl2 Hs2.out).mono ?_; rintro e w' ⟨rfl, n1, rfl⟩) | (go_at_call 24; refine (calls_bool (l23Good_any (t.size : Int) l A3 c3 _ (Hb.out.drewN n1) hl3 hc3) e2).mono ?_; rintro e w1 ⟨rfl, hb1'⟩; have hb1 : Below w.heap.size w w1 := (below_drewN (Below.refl _ _) n1).trans hb1'; have s1 := (hb1.cell (p := ⟨g0, of0, none⟩) hg0).trans s0) | (refine wpList_make_cells rfl 24 _ rfl 3 _ 8 rfl Int_info rfl .i64 t.size rfl (by omega) (by omega) ?_; intro w2 hc2 hb2 hown2))
  have ho0 : OwnL w2 w1.heap.size (w1.heap.size + 1) (some ⟨w1.heap.size, 0, none⟩) 1 encInt (worstTo rows l es (sz0 rows) 0) := .inr ⟨w1.heap.size, _, rfl, Nat.le_refl _, by omega, by simp only [worstTo, List.length_replicate, Nat.mul_one, Hsz.out]; exact hc2, fun i hi j u hu => by
    have hj : j = 0 := by have := (List.getElem?_eq_some_iff.1 hu).1; simp [encInt] at this; exact this
    subst hj
    simp [worstTo, encInt] at hu
    exact hu⟩
  have HO0 := Lib.hid ho0
  have Hb1 := Lib.hid hb1
  have HB2 : Hid (Below w.heap.size w w2) := Lib.hid (hb1.trans (hb2.mono hb1.size))
  have hwg : w.heap.size ≤ w1.heap.size := hb1.size
  have hw12 : w1.heap.size + 1 ≤ w2.heap.size := by
    rcases HO0.out with h0 | ⟨g, f, hA, _, _, hc, _⟩
    · have hz := worstTo_len rows l es (sz0 rows) 0
      rw [h0] at hz; have := (HP.out.2.1.2 0 hpos).1.1; rw [ht.out] at this; have h9 := Hsz.out; simp at hz; omega
    · simp only [Option.some.injEq, Addr.mk.injEq, and_true] at hA; subst hA; exact hc.lt
  clear ho0 hc2 hown2 hb2 hb1 hb1' s0 s1
  go_loopw [47] (fun i wr => ∃ k : Nat, k ≤ l.length ∧ i = .int .i64 k ∧ OwnL wr w1.heap.size (w1.heap.size + 1) (some ⟨w1.heap.size, 0, none⟩) 1 encInt (worstTo rows l es (sz0 rows) k) ∧ Below w.heap.size w wr ∧ goodTo es rows l k ∧ w1.heap.size + 1 ≤ wr.heap.size) (fun i _ => l.length - (intOf i).toNat)
  case atStart => exact ⟨0, by omega, by rfl, HO0.out, HB2.out, fun j _ _ h => by omega, hw12⟩
  case round =>
    obtain ⟨k, hk, rfl, ho, hbl, hgd, hz9⟩ := hrel
    have Hgd := Lib.hid hgd
    have Ho := Lib.hid ho
    have Hbl := Lib.hid hbl
    have hgs := hbl.size
    clear ho hbl hgd
    by_cases hlt3 : k < l.length
    · have hlt : k < es.length := by omega
      have hek : inB es[k] (-10000000) 10000000 := HES.out _ (List.getElem_mem hlt)
      by_cases hxk : l[k].row < rows.length
      rotate_left
      · obtain ⟨gb, ofb, hAb, hgb, hcb⟩ := Hb.out.at hlt3
        obtain ⟨x, hx⟩ : ∃ x, Hid (l[k] = x) := ⟨_, Lib.hid rfl⟩
        have q2 : wr.cell? ⟨gb, ofb + k * 3, none⟩ = some (.int .i64 x.row) := (Hbl.out.cell (p := ⟨gb, ofb + k * 3, none⟩) hgb).trans (by have := hcb 0 _ rfl; rw [hx.out] at this; exact this)
        have q3 : wr.cell? ⟨gb, ofb + k * 3 + 1, none⟩ = some (.int .i64 x.place) := (Hbl.out.cell (p := ⟨gb, ofb + k * 3 + 1, none⟩) hgb).trans (by have := hcb 1 _ rfl; rw [hx.out] at this; exact this)
        have q4 : wr.cell? ⟨gb, ofb + k * 3 + 2, none⟩ = some (.int .i64 x.at_) := (Hbl.out.cell (p := ⟨gb, ofb + k * 3 + 2, none⟩) hgb).trans (by have := hcb 2 _ rfl; rw [hx.out] at this; exact this)
        subst hAb
        rw [hx.out] at hxk
        have hxk2 : (rows.length : Int) ≤ x.row := by omega
        have hgb2 : gb < wr.heap.size := Nat.lt_of_lt_of_le hgb hgs
        clear hcb hxk
        go_wp2
        go_ret2
        exact ⟨rfl, Hbl.out.alloc hgs _⟩
      have Hnx := Lib.hid (goodTo_succ Hgd.out hlt hlt3 hek hxk)
      obtain ⟨r, i, hr, x1, x2, x3, x4, x5, x6, x7, x8, x9, x10, x11, x12⟩ := worst_round HP.out hlt hlt3 hek hxk
      obtain ⟨ge, ofe, hAe, hge, hce⟩ := He.out.at hlt
      obtain ⟨gr, ofr, hAr, hgr, hcr⟩ := Hw.out.at hr
      obtain ⟨gb, ofb, hAb, hgb, hcb⟩ := Hb.out.at hlt3
      have hst := worstTo_step (rows := rows) (n := sz0 rows) (List.getElem?_eq_getElem hlt3) (List.getElem?_eq_getElem hlt)
      have hbd := worstTo_bd rows l es (sz0 rows) k (fun i hi hik => (Hgd.out i hi (by omega) hik).1) (bellIx rows l[k])
      have habs := absI_bd x12
      obtain ⟨e, he⟩ : ∃ e, Hid (es[k] = e) := ⟨_, Lib.hid rfl⟩
      obtain ⟨s, hs⟩ : ∃ s, Hid (rows[r] = s) := ⟨_, Lib.hid rfl⟩
      obtain ⟨x, hx⟩ : ∃ x, Hid (l[k] = x) := ⟨_, Lib.hid rfl⟩
      have q0 : wr.cell? ⟨ge, ofe + k, none⟩ = some (.int .i64 e) := (Hbl.out.cell (p := ⟨ge, ofe + k, none⟩) hge).trans (by have := hce 0 _ rfl; rw [Nat.mul_one, he.out] at this; exact this)
      have q1 : wr.cell? ⟨gr, ofr + r, none⟩ = some (.string s) := (Hbl.out.cell (p := ⟨gr, ofr + r, none⟩) hgr).trans (by have := hcr 0 _ rfl; rw [Nat.mul_one, hs.out] at this; exact this)
      have q2 : wr.cell? ⟨gb, ofb + k * 3, none⟩ = some (.int .i64 r) := (Hbl.out.cell (p := ⟨gb, ofb + k * 3, none⟩) hgb).trans (by have := hcb 0 _ rfl; rw [x1] at this; exact this)
      have q3 : wr.cell? ⟨gb, ofb + k * 3 + 1, none⟩ = some (.int .i64 ((i : Int) + 1)) := (Hbl.out.cell (p := ⟨gb, ofb + k * 3 + 1, none⟩) hgb).trans (by have := hcb 1 _ rfl; rw [x3] at this; exact this)
      have q4 : wr.cell? ⟨gb, ofb + k * 3 + 2, none⟩ = some (.int .i64 x.at_) := (Hbl.out.cell (p := ⟨gb, ofb + k * 3 + 2, none⟩) hgb).trans (by have := hcb 2 _ rfl; rw [hx.out] at this; exact this)
      have hge2 : ge < wr.heap.size := Nat.lt_of_lt_of_le hge hgs
      have hgr2 : gr < wr.heap.size := Nat.lt_of_lt_of_le hgr hgs
      have hgb2 : gb < wr.heap.size := Nat.lt_of_lt_of_le hgb hgs
      simp only [Option.some.injEq, Addr.mk.injEq, and_true] at hAr
      obtain ⟨rfl, rfl⟩ := hAr
      subst hAe hAb
      clear hek hxk
      rw [hs.out] at x5 x6 x7 x8 x11
      rw [he.out] at x12 hst habs
      rw [hx.out] at x11 hst hbd
      obtain ⟨v, hv⟩ : ∃ v : Nat, bat s i = 49 + (v : Int) := ⟨(bat s i - 49).toNat, by omega⟩
      have hbx : bellIx rows x = v := by rw [x11, hv]; omega
      have hvn : v < sz0 rows := by omega
      rw [hbx] at hst hbd
      have hlw := worstTo_len rows l es (sz0 rows) k
      have hcell := Ho.out.cellInt v (by rw [hlw]; exact hvn)
      have hgetv : (worstTo rows l es (sz0 rows) k).getD v 0 = (worstTo rows l es (sz0 rows) k)[v]'(by rw [hlw]; exact hvn) := by rw [List.getD_eq_getElem?_getD, List.getElem?_eq_getElem (by rw [hlw]; exact hvn)]; rfl
      obtain ⟨y, hy⟩ : ∃ y, Hid ((worstTo rows l es (sz0 rows) k).getD v 0 = y) := ⟨_, Lib.hid rfl⟩
      rw [← hgetv, hy.out] at hcell
      rw [hy.out] at hst hbd
      obtain ⟨z0, zf⟩ := hcell
      have Hst := Lib.hid hst
      have Hin := Lib.hid x12
      have Hv := Lib.hid hv
      have Hlw := Lib.hid (show v < (worstTo rows l es (sz0 rows) k).length by rw [hlw]; exact hvn)
      obtain ⟨hbd1, hbd2⟩ := hbd
      obtain ⟨habs1, habs2⟩ := habs
      have hyb : y ≤ 4000000000 := by omega
      clear x1 x3 hce hcr hcb hst x12 x11 hv hbx hlw hgetv hbd2
      have hvt : v < t.size := by rw [← Hsz.out]; exact hvn
      have hat : Hid (∀ W : World, Calls Tryz.prog 25 #[.string s, .int .i64 ((i : Int) + 1)] W fun e w' => e = .returned (.int .i64 ((v : Int) + 1)) ∧ w' = W) := Lib.hid (fun W => (l1At_any s ((i : Int) + 1) W (by omega) (by omega) (by omega) (by rw [show (i : Int) + 1 - 1 = (i : Int) from by omega, Hv.out]; omega)).mono (fun e w' h => ⟨by rw [h.1]; exact ret_int (by rw [show (i : Int) + 1 - 1 = (i : Int) from by omega, Hv.out]; omega), h.2.symm⟩))
      have hw4 : IntKind.i64.wrap (v : Int) = (v : Int) := IntWalk.i64_in _ (by omega)
      have hw5 : IntKind.i64.wrap ((v : Int) + 1 - 1) = (v : Int) := by rw [show (v : Int) + 1 - 1 = (v : Int) from by omega]; exact hw4
      have hw3 : IntKind.i64.wrap (y + absI e) = y + absI e := IntWalk.i64_in _ (by omega)
      have hlw9 : w1.heap.size < wr.heap.size := by omega
      go_wp2
      have HW9 : Hid (Below wr.heap.size wr (wr.alloc (.cells #[.int .i64 r, .int .i64 ((i : Int) + 1), .int .i64 x.at_] 43))) := Lib.hid ((Below.refl _ _).alloc (Nat.le_refl _) _)
      have p0 := (HW9.out.cell (p := ⟨ge, ofe + k, none⟩) hge2).trans q0
      have p1 := (HW9.out.cell (p := ⟨g0, of0 + r, none⟩) hgr2).trans q1
      have b0 : (wr.alloc (.cells #[.int .i64 r, .int .i64 ((i : Int) + 1), .int .i64 x.at_] 43)).cell? ⟨wr.heap.size, 0, none⟩ = some (.int .i64 r) := by simp [go_sem]
      have b1 : (wr.alloc (.cells #[.int .i64 r, .int .i64 ((i : Int) + 1), .int .i64 x.at_] 43)).cell? ⟨wr.heap.size, 1, none⟩ = some (.int .i64 ((i : Int) + 1)) := by simp [go_sem]
      have zz := (HW9.out.cell (p := ⟨w1.heap.size, v, none⟩) hlw9).trans z0
      have zzf := (HW9.out.frozen (p := ⟨w1.heap.size, v, none⟩) hlw9).trans zf
      have HOd := Lib.hid (Ho.out.later HW9.out)
      have HBd := Lib.hid (Hbl.out.trans (HW9.out.mono hgs))
      have hzd := HW9.out.size
      clear z0 zf HW9 q0 q1 q2 q3 q4
      generalize (wr.alloc (.cells #[.int .i64 r, .int .i64 ((i : Int) + 1), .int .i64 x.at_] 43)) = W9 at *
      refine wp_region_still_tail 19 (by kernel_rfl) (by kernel_rfl) ?_
      simp only [List.take_succ_cons, List.take_zero, List.drop_succ_cons, List.drop_zero]
      repeat (first | still_call (hat.out _) | still_call ((far0_any e _ Hin.out).mono (fun _ _ h => ⟨h.1, h.2.symm⟩)) | still_step)
      refine wpStill_nil ?_
      change wpList _ _ _ _ _ W9.drew
      have z0d : W9.drew.cell? ⟨w1.heap.size, v, none⟩ = some (.int .i64 y) := zz
      have zfd : W9.drew.frozen? ⟨w1.heap.size, v, none⟩ = false := zzf
      have HOd2 : Hid (OwnL W9.drew w1.heap.size (w1.heap.size + 1) (some ⟨w1.heap.size, 0, none⟩) 1 encInt (worstTo rows l es (sz0 rows) k)) := Lib.hid (show OwnL W9 w1.heap.size (w1.heap.size + 1) (some ⟨w1.heap.size, 0, none⟩) 1 encInt (worstTo rows l es (sz0 rows) k) from HOd.out)
      have HBd2 : Hid (Below w.heap.size w W9.drew) := Lib.hid HBd.out.drew
      have hzd2 : wr.heap.size ≤ W9.drew.heap.size := hzd
      clear zz zzf p0 p1 b0 b1
      generalize W9.drew = wd at *
      go_wp2
      go_roundw
      case rel => exact ⟨k + 1, by omega, by go_num, by rw [Hst.out]; exact HOd2.out.setInt v Hlw.out (y + absI e), HBd2.out.setCell (p := ⟨w1.heap.size, v, none⟩) hwg _, Hnx.out, by simp; omega⟩
      case measure => simp [intOf]; omega
    · have hke : k = es.length := by omega
      exact absurd (by rw [← hke]; exact Hgd.out) HALL.out

set_option maxHeartbeats 1600000 in
theorem sWorst_n (es : List Int) (rows : List ByteArray) (l : List Blw) (A A2 A3 : Option Addr) (c c2 c3 : Nat) (w : World) (h : RdL w w.heap.size A 1 encInt es) (h2 : RdL w w.heap.size A2 1 encString rows) (h3 : RdL w w.heap.size A3 3 Blw.enc l) (hl : es.length ≤ 1048576) (hl2 : rows.length ≤ 1048576) (hl3 : l.length ≤ 1048576) (hs2 : ∀ x ∈ rows, String_small 1048576 x) (hc3 : l.length ≤ c3) (hp : ¬ (base5 es rows l ∧ allIn es (-10000000) 10000000)) :
    Calls Tryz.prog 7 #[.slice A es.length c, .slice A2 rows.length c2, .slice A3 l.length c3] w fun e w' => e = .returned (.tuple #[.slice none 0 0, .bool false]) ∧ Below w.heap.size w w' := by
  have He := Lib.hid h
  have Hw := Lib.hid h2
  have Hb := Lib.hid h3
  have Hs2 := Lib.hid hs2
  clear h h2 h3 hs2
  by_cases k1 : valsP es
  rotate_left
  · have e0 := B_f k1
    clear hp k1
    go_enter Tryz.func7, Tryz.ntmps7
    go_wp2_with (first | (go_at_call 22; refine (l23ValuesW_any es A c _ He.out hl).mono ?_; rintro e w' ⟨rfl, rfl⟩) | (go_at_call 23; refine (l6Rows_any rows _ _ _ Hw.out hl2 Hs2.out).mono ?_; rintro e w' ⟨rfl, n1, rfl⟩) | (go_at_call 24; refine (calls_bool (l23Good_any (t.size : Int) l A3 c3 _ (Hb.out.drewN n1) hl3 hc3) e2).mono ?_; rintro e w1 ⟨rfl, hb1'⟩; have hb1 : Below w.heap.size w w1 := (below_drewN (Below.refl _ _) n1).trans hb1'))
    go_ret2
    exact ⟨rfl, Below.refl _ _⟩
  have e0 := B_t k1
  by_cases k2 : rowsP rows
  rotate_left
  · have e1 := B_f k2
    clear hp k1 k2
    go_enter Tryz.func7, Tryz.ntmps7
    go_wp2_with (first | (go_at_call 22; refine (l23ValuesW_any es A c _ He.out hl).mono ?_; rintro e w' ⟨rfl, rfl⟩) | (go_at_call 23; refine (l6Rows_any rows _ _ _ Hw.out hl2 Hs2.out).mono ?_; rintro e w' ⟨rfl, n1, rfl⟩) | (go_at_call 24; refine (calls_bool (l23Good_any (t.size : Int) l A3 c3 _ (Hb.out.drewN n1) hl3 hc3) e2).mono ?_; rintro e w1 ⟨rfl, hb1'⟩; have hb1 : Below w.heap.size w w1 := (below_drewN (Below.refl _ _) n1).trans hb1'))
    go_ret2
    exact ⟨rfl, below_drewN (Below.refl _ _) _⟩
  have e1 := B_t k2
  by_cases k3 : 0 < rows.length
  rotate_left
  · have hn0 : ((rows.length : Int) == 0) = true := by rw [beq_iff_eq]; omega
    clear hp k1 k2
    go_enter Tryz.func7, Tryz.ntmps7
    go_wp2_with (first | (go_at_call 22; refine (l23ValuesW_any es A c _ He.out hl).mono ?_; rintro e w' ⟨rfl, rfl⟩) | (go_at_call 23; refine (l6Rows_any rows _ _ _ Hw.out hl2 Hs2.out).mono ?_; rintro e w' ⟨rfl, n1, rfl⟩) | (go_at_call 24; refine (calls_bool (l23Good_any (t.size : Int) l A3 c3 _ (Hb.out.drewN n1) hl3 hc3) e2).mono ?_; rintro e w1 ⟨rfl, hb1'⟩; have hb1 : Below w.heap.size w w1 := (below_drewN (Below.refl _ _) n1).trans hb1'))
    go_ret2
    exact ⟨rfl, below_drewN (Below.refl _ _) _⟩
  have hn0 : ((rows.length : Int) == 0) = false := by rw [beq_eq_false_iff_ne]; omega
  obtain ⟨g0, of0, hA0, hg0, hc0⟩ := Hw.out.at k3
  have s0 : w.cell? ⟨g0, of0, none⟩ = some (.string rows[0]) := hc0 0 _ rfl
  have hsz := sz0_eq rows k3
  obtain ⟨t, ht⟩ : ∃ t, Hid (rows[0] = t) := ⟨_, Lib.hid rfl⟩
  rw [ht.out] at s0 hsz
  subst hA0
  by_cases k5 : blowsP (sz0 rows) l
  rotate_left
  · have e2 := B_f k5
    rw [hsz] at e2
    clear hp k1 k2 k5 hc0 hsz
    go_enter Tryz.func7, Tryz.ntmps7
    go_wp2_with (first | (go_at_call 22; refine (l23ValuesW_any es A c _ He.out hl).mono ?_; rintro e w' ⟨rfl, rfl⟩) | (go_at_call 23; refine (l6Rows_any rows _ _ _ Hw.out hl2 Hs2.out).mono ?_; rintro e w' ⟨rfl, n1, rfl⟩) | (go_at_call 24; refine (calls_bool (l23Good_any (t.size : Int) l A3 c3 _ (Hb.out.drewN n1) hl3 hc3) e2).mono ?_; rintro e w1 ⟨rfl, hb1'⟩; have hb1 : Below w.heap.size w w1 := (below_drewN (Below.refl _ _) n1).trans hb1'))
    go_ret2
    exact ⟨rfl, hb1⟩
  have k4 : l.length ≠ es.length := fun h => hp ⟨⟨k1.1, k2, k3, h, k5⟩, k1.2⟩
  have hne : ((l.length : Int) != es.length) = true := by rw [bne_iff_ne]; omega
  have e2 := B_t k5
  rw [hsz] at e2
  clear hp k1 k2 k5 k4 hc0 hsz
  go_enter Tryz.func7, Tryz.ntmps7
  go_wp2_with (first | (go_at_call 22; refine (l23ValuesW_any es A c _ He.out hl).mono ?_; rintro e w' ⟨rfl, rfl⟩) | (go_at_call 23; refine (l6Rows_any rows _ _ _ Hw.out hl2 Hs2.out).mono ?_; rintro e w' ⟨rfl, n1, rfl⟩) | (go_at_call 24; refine (calls_bool (l23Good_any (t.size : Int) l A3 c3 _ (Hb.out.drewN n1) hl3 hc3) e2).mono ?_; rintro e w1 ⟨rfl, hb1'⟩; have hb1 : Below w.heap.size w w1 := (below_drewN (Below.refl _ _) n1).trans hb1'))
  go_ret2
  exact ⟨rfl, hb1⟩
theorem sWorst_f (es : List Int) (rows : List ByteArray) (l : List Blw) (A A2 A3 : Option Addr) (c c2 c3 : Nat) (w : World) (h : RdL w w.heap.size A 1 encInt es) (h2 : RdL w w.heap.size A2 1 encString rows) (h3 : RdL w w.heap.size A3 3 Blw.enc l) (hl : es.length ≤ 1048576) (hl2 : rows.length ≤ 1048576) (hl3 : l.length ≤ 1048576) (hs2 : ∀ x ∈ rows, String_small 1048576 x) (hc3 : l.length ≤ c3) (hp : ¬ worstP es rows l) :
    Calls Tryz.prog 7 #[.slice A es.length c, .slice A2 rows.length c2, .slice A3 l.length c3] w fun e w' => e = .returned (.tuple #[.slice none 0 0, .bool false]) ∧ Below w.heap.size w w' := by
  by_cases hb : base5 es rows l ∧ allIn es (-10000000) 10000000
  · exact sWorst_g es rows l A A2 A3 c c2 c3 w h h2 h3 hl hl2 hl3 hs2 hc3 hb.1 hb.2 (fun hg => hp ⟨hb.1, hg⟩)
  · exact sWorst_n es rows l A A2 A3 c c2 c3 w h h2 h3 hl hl2 hl3 hs2 hc3 hb
theorem worstP.all {es : List Int} {rows : List ByteArray} {l : List Blw} (h : worstP es rows l) : allIn es (-10000000) 10000000 := fun e he => by
  obtain ⟨i, hi, rfl⟩ := List.getElem_of_mem he
  exact (h.2 i hi (by have := h.1.2.2.2.1; omega) hi).1
theorem worst_len8 {es : List Int} {rows : List ByteArray} {l : List Blw} (h : worstP es rows l) : (worstTo rows l es (sz0 rows) es.length).length ≤ 8 := by
  rw [worstTo_len, sz0_eq rows h.1.2.2.1]
  exact (h.1.2.1.2 0 h.1.2.2.1).1.2.1
end Go.Proofs.YtglnehinmdmgmaaGreat
