import Derived.Test.YtglnehinmdmgmaaGreatMErrorsL11
import Derived.Test.YtglnehinmdmgmaaGreatMErrorsL09
import Derived.Test.YtglnehinmdmgmaaGreatMErrorsL12
/-
  Drawn rows of a course, and blows near to a beat.
-/
namespace Go.Proofs.YtglnehinmdmgmaaGreat
open Go.RowKit
set_option linter.unusedVariables false
set_option linter.unusedSimpArgs false
set_option maxRecDepth 100000



theorem bgo {w w1 w2 : World} (h : Below w.heap.size w w1) (k : Below w1.heap.size w1 w2) : Below w.heap.size w w2 := h.trans (k.mono h.size)
theorem RdL.go {α : Type} {w w' : World} {A : Option Addr} {size : Nat} {enc : α → List Value} {l : List α} (h : RdL w w.heap.size A size enc l) (k : Below w.heap.size w w') : RdL w' w'.heap.size A size enc l := (h.below k (Nat.le_refl _)).more k.size
theorem walkL_sz {n : Nat} (h3 : 3 ≤ n) (h8 : n ≤ 8) {r : ByteArray} (hr : rowN n r) (x : List ByteArray) : ∀ s ∈ walkL (chF n) r x x.length, s.size ≤ 8 := fun s hs => by
  obtain ⟨i, hi, rfl⟩ := List.getElem_of_mem hs
  rw [walkL_at]
  have := (after_rowN (f := chF n) (l := x) (fun r hr c _ => chF_row h3 h8 hr c) hr i).2
  omega
set_option maxHeartbeats 1600000 in
theorem l4Head_any (nm : ByteArray) (n : Nat) (x : List ByteArray) (A : Option Addr) (c : Nat) (w : World) (h : RdL w w.heap.size A 1 encString x) (h3 : 3 ≤ n) (h8 : n ≤ 8) (hl : x.length ≤ 1048576) (hx : ∀ c ∈ x, c.size ≤ 1048576) :
    Calls Tryz.prog 90 #[.agg #[Value.string nm, .int .i64 (n : Int), .slice A x.length c]] w fun e w' => e = .returned (.string (after (chF n) (roundsS n) x x.length)) ∧ Below w.heap.size w w' := by
  obtain ⟨W, hWe, hWb, hM⟩ : ∃ W : World, Hid (w.alloc (.cells #[Value.string nm, .int .i64 (n : Int), .slice A x.length c] 91) = W) ∧ Hid (Below w.heap.size w W) ∧ Hid (Cells W w.heap.size 3 (fun i => (#[Value.string nm, .int .i64 (n : Int), .slice A x.length c] : Array Value).getD i undef)) := ⟨_, Lib.hid rfl, Lib.hid ((Below.refl _ _).alloc (Nat.le_refl _) _), Lib.hid (Cells.newD _ #[Value.string nm, .int .i64 (n : Int), .slice A x.length c] _)⟩
  have hrow := row_rounds h3 h8
  have HRn : Hid (∀ W', Below W.heap.size W W' → Calls Tryz.prog 88 #[.int .i64 (n : Int)] W' fun e w' => ∃ v, e = .returned v ∧ (v = .string (roundsS n) ∧ W' = w')) := Lib.hid fun W' _ => (l1Rounds_any (n : Int) W' (by omega) (by omega)).mono fun e w' h => ⟨_, h.1, rfl, h.2⟩
  have HLd : Hid (∀ W', Below W.heap.size W W' → Calls Tryz.prog 91 #[.slice A x.length c, .string (roundsS n)] W' fun e w' => ∃ v, e = .returned v ∧ ∃ (A2 : Option Addr) (l2 c2 : Nat), v = .tuple #[.slice A2 l2 c2, .string (after (chF n) (roundsS n) x x.length)] ∧ Below W.heap.size W w') := Lib.hid fun W' hb => by
    have hb' := bgo hWb.out hb
    exact (l4Lead_any n (roundsS n) x A c W' (h.go hb') h3 h8 hrow hl hx).mono fun e w' ⟨A2, c2, h1, _, h3⟩ => ⟨_, h1, A2, _, c2, rfl, bgo hb h3⟩
  obtain ⟨R0, hR0⟩ : ∃ R, Hid (roundsS (n : Int) = R) := ⟨_, Lib.hid rfl⟩
  obtain ⟨LH, hLH⟩ : ∃ R, Hid (after (chF n) (roundsS (n : Int)) x x.length = R) := ⟨_, Lib.hid rfl⟩
  rw [hLH.out] at HLd ⊢
  rw [hR0.out] at HRn HLd
  clear h hrow
  have u1 := hM.out.cell (i := 1) (by omega)
  have u2 := hM.out.cell (i := 2) (by omega)
  go_enter Tryz.func90, Tryz.ntmps90
  go_upto_region 1 with fail
  rw [hWe.out]
  clear hWe
  go_region_law (first
    | (refine step_callsX (by rfl) 88 (by rfl) #[.int .i64 (n : Int)] (by go_simp) (HRn.out _ (by repeat (first | exact Below.refl _ _ | refine Below.drew ?_ | refine Below.alloc ?_ (Nat.le_refl _) _))) ?_; rintro v wA ⟨rfl, rfl⟩)
    | (refine step_callsX (by rfl) 91 (by rfl) #[.slice A x.length c, .string R0] (by go_simp) (HLd.out _ (by repeat (first | exact Below.refl _ _ | refine Below.drew ?_ | refine Below.alloc ?_ (Nat.le_refl _) _))) ?_; rintro v wB ⟨A2, l2, c2, rfl, hbB⟩; have HBB := Lib.hid hbB; clear hbB)
    | fail)
  all_goals
    clear u1 u2
    go_wp2
    go_ret
    exact ⟨rfl, bgo hWb.out HBB.out⟩
set_option maxHeartbeats 3200000 in
theorem l4Course_any (nm : ByteArray) (n : Nat) (x : List ByteArray) (A : Option Addr) (c : Nat) (w : World) (h : RdL w w.heap.size A 1 encString x) (h3 : 3 ≤ n) (h8 : n ≤ 8) (hx0 : 0 < x.length) (hx12 : x.length ≤ 12) (hx : ∀ c ∈ x, c.size ≤ 1048576) :
    Calls Tryz.prog 65 #[.agg #[Value.string nm, .int .i64 (n : Int), .slice A x.length c]] w fun e w' => ∃ (L : List ByteArray) (A2 : Option Addr) (c2 : Nat), e = .returned (.slice A2 L.length c2) ∧ 0 < L.length ∧ L.length ≤ 10080 ∧ L.length ≤ c2 ∧ (∀ r ∈ L, r.size ≤ 8) ∧ OwnL w' w.heap.size w'.heap.size A2 1 encString L ∧ Below w.heap.size w w' := by
  obtain ⟨W, hWe, hWb, hM⟩ : ∃ W : World, Hid (w.alloc (.cells #[Value.string nm, .int .i64 (n : Int), .slice A x.length c] 91) = W) ∧ Hid (Below w.heap.size w W) ∧ Hid (Cells W w.heap.size 3 (fun i => (#[Value.string nm, .int .i64 (n : Int), .slice A x.length c] : Array Value).getD i undef)) := ⟨_, Lib.hid rfl, Lib.hid ((Below.refl _ _).alloc (Nat.le_refl _) _), Lib.hid (Cells.newD _ #[Value.string nm, .int .i64 (n : Int), .slice A x.length c] _)⟩
  have hWs : w.heap.size + 1 = W.heap.size := by rw [← hWe.out]; simp
  have hrow := row_rounds h3 h8
  have HRW := Lib.hid (h.go hWb.out)
  have hlh : Hid (isRow (after (chF n) (roundsS n) x x.length)) := Lib.hid (after_rowN (f := chF n) (l := x) (fun r hr c _ => chF_row h3 h8 hr c) hrow x.length).1
  have HHd : Hid (∀ W', Below W.heap.size W W' → Calls Tryz.prog 90 #[.agg #[Value.string nm, .int .i64 (n : Int), .slice A x.length c]] W' fun e w' => e = .returned (.string (after (chF n) (roundsS n) x x.length)) ∧ Below W'.heap.size W' w') := Lib.hid fun W' hb => l4Head_any nm n x A c W' (HRW.out.go hb) h3 h8 (by omega) hx
  have HLd : Hid (∀ (W' : World) (r : ByteArray), Below W.heap.size W W' → rowN n r → Calls Tryz.prog 91 #[.slice A x.length c, .string r] W' fun e w' => ∃ (D : List ByteArray) (A2 : Option Addr) (c2 : Nat) (r' : ByteArray), e = .returned (.tuple #[.slice A2 D.length c2, .string r']) ∧ D.length = x.length ∧ (∀ s ∈ D, s.size ≤ 8) ∧ rowN n r' ∧ RdL w' w'.heap.size A2 1 encString D ∧ Below W'.heap.size W' w') := Lib.hid fun W' r hb hr => by
    exact (l4Lead_any n r x A c W' (HRW.out.go hb) h3 h8 hr (by omega) hx).mono fun e w' ⟨A2, c2, h1, h2, h5⟩ => ⟨_, A2, c2, _, h1, walkL_len _ _ _ _, walkL_sz h3 h8 hr x, after_rowN (f := chF n) (l := x) (fun r hr c _ => chF_row h3 h8 hr c) hr x.length, h2.rd encString_len, h5⟩
  have Hrow0 : Hid (rowN n (roundsS n)) := Lib.hid hrow
  have HRn : Hid (∀ W', Calls Tryz.prog 88 #[.int .i64 (n : Int)] W' fun e w' => e = .returned (.string (roundsS n)) ∧ W' = w') := Lib.hid fun W' => l1Rounds_any (n : Int) W' (by omega) (by omega)
  obtain ⟨R0, hR0⟩ : ∃ R, Hid (roundsS (n : Int) = R) := ⟨_, Lib.hid rfl⟩
  obtain ⟨LH, hLH⟩ : ∃ R, Hid (after (chF n) (roundsS (n : Int)) x x.length = R) := ⟨_, Lib.hid rfl⟩
  rw [hLH.out] at HHd hlh
  rw [hR0.out] at HRn Hrow0
  clear h hrow hx
  have u0 : W.cell? ⟨w.heap.size, 0, none⟩ = some (.string nm) := hM.out.cell (i := 0) (by omega)
  have u1 : W.cell? ⟨w.heap.size, 1, none⟩ = some (.int .i64 (n : Int)) := hM.out.cell (i := 1) (by omega)
  have u2 : W.cell? ⟨w.heap.size, 2, none⟩ = some (.slice A x.length c) := hM.out.cell (i := 2) (by omega)
  go_enter Tryz.func65, Tryz.ntmps65
  go_upto_region 1 with fail
  rw [hWe.out]
  clear hWe
  go_wp2_with (first
    | (go_at_call 88; refine (HRn.out _).mono ?_; rintro e w1 ⟨rfl, rfl⟩)
    | (go_at_call 90; refine (HHd.out W (Below.refl _ _)).mono ?_; rintro e w1 ⟨rfl, hb1⟩; have HB1 := Lib.hid hb1; clear hb1 u0 u1 u2)
    | (go_at_call 89; refine (l1Order_any LH w1 hlh.out).mono ?_; rintro e w2 ⟨K, rfl, hK1, hK2, hb2⟩; have HB2 := Lib.hid (bgo HB1.out hb2); clear hb2)
    | fail)
  go_loopw [3, 4, 5] (fun v hd i wr => ∃ (j : Nat) (r : ByteArray) (L : List ByteArray), i = .int .i64 (j : Int) ∧ hd = .string r ∧ j ≤ K ∧ Hid (rowN n r) ∧ Hid (∀ s ∈ L, s.size ≤ 8) ∧ L.length + 12 * j ≤ 10080 ∧ (j < K → 0 < L.length) ∧ Grow wr W.heap.size 9 1 encString v L ∧ Below W.heap.size W wr) (fun _ _ i _ => (intOf i).toNat)
  case atStart => exact ⟨K, R0, [], by rfl, by rfl, Nat.le_refl _, Hrow0, Lib.hid (by simp), by show 0 + 12 * K ≤ 10080; omega, fun h => by omega, Grow.nil, HB2.out⟩
  case round =>
    obtain ⟨j, r, L, rfl, rfl, hjK, hrn, hLs, hLl, hLp, hgr, hbl⟩ := hrel
    have HG := Lib.hid hgr
    have HB := Lib.hid hbl
    have HLp := Lib.hid hLp
    have hzr := hbl.size
    clear hgr hbl hLp
    by_cases hlt : 0 < j
    · have u2 : wr.cell? ⟨w.heap.size, 2, none⟩ = some (.slice A x.length c) := (hM.out.later HB.out).cell (i := 2) (by omega)
      go_wp2_with (first
        | (go_at_call 91; refine (HLd.out wr r HB.out hrn.out).mono ?_; rintro e w4 ⟨D, A4, c4, r', rfl, hDl, hDs, hrn', hrd, hb4⟩; have HDl := Lib.hid hDl; have HDs := Lib.hid hDs; have HRn' := Lib.hid hrn'; have HRd := Lib.hid hrd; have HB4 := Lib.hid (bgo HB.out hb4); have HG4 := Lib.hid (HG.out.later hb4); have hz4 := hb4.size; have hD0 : 0 < D.length := (by omega); have hD12 : D.length ≤ 12 := (by omega); clear hDl hDs hrn' hrd hb4 u2)
        | (at_builtin; refine wpList_pushAll rfl (.tmp 25) (.tmp 26) 25 rfl W.heap.size 9 _ 1 16 encString rfl String_info rfl (by omega) _ L D A4 c4 w4.heap.size rfl rfl HRd.out hD0 HG4.out encString_len (by simp [encString, Value.oneCell']) (by omega) (by omega) (by omega) ?_; intro v5 w5 hg5 hb5 _; have HG5 := Lib.hid hg5; have HB5 := Lib.hid (HB4.out.trans hb5); clear hg5 hb5)
        | fail)
      go_roundw
      case rel => exact ⟨j - 1, r', L ++ D, by go_num, rfl, by omega, HRn', Lib.hid (fun s hs => by
        rcases List.mem_append.1 hs with hs | hs
        · exact hLs.out s hs
        · exact HDs.out s hs), by rw [List.length_append]; omega, fun _ => by rw [List.length_append]; omega, HG5.out, HB5.out⟩
      case measure => simp [intOf]; omega
    · obtain rfl : j = 0 := by omega
      obtain ⟨A9, c9, rfl, ho9⟩ := HG.out.own encString_len
      have HO9 := Lib.hid ho9
      have HC9 := Lib.hid HG.out.capN
      clear ho9
      go_wp2
      go_ret
      exact ⟨L, A9, c9, rfl, HLp.out (by omega), by omega, HC9.out, hLs.out, HO9.out.mono (by omega) (Nat.le_refl _), bgo hWb.out HB.out⟩
/-- Drawn rows as a result. -/
def RowsDr (g K N : Nat) (w : World) (e : Ending) (w' : World) : Prop := ∃ (R : List ByteArray) (A2 : Option Addr) (c2 : Nat), e = .returned (.slice A2 R.length c2) ∧ R.length ≤ N ∧ R.length ≤ c2 ∧ (∀ r ∈ R, r.size ≤ 8) ∧ Aw w' w.heap.size A2 1 encString R ∧ Cur w' g K ∧ Turn g w w'

set_option maxHeartbeats 6400000 in
theorem rung_any (g K : Nat) (w : World) (h : Cur w g K) (hK : K ≤ 1000000) :
    Calls Tryz.prog 45 #[.pointer (some ⟨g, 0, none⟩)] w fun e w' => RowsDr g (K + 200) 400 w e w' := by
  have H := Lib.hid h
  have hgw := h.lt
  clear h
  go_enter Tryz.func45, Tryz.ntmps45
  go_upto_region 2 with (first | (go_at_call 64; refine (method_any g K w H.out (by omega)).mono ?_; rintro e w1 ⟨nm, n, x, A, c, rfl, hok, hxc, ho, hc, ht⟩; have HOK := Lib.hid hok; have HO1 := Lib.hid ho; have HC1 := Lib.hid hc; have HT1 := Lib.hid ht; have hz1 := ht.size; clear hok ho hc ht) | fail)
  have hn3 := HOK.out.n3
  have hn6 := HOK.out.n6
  obtain ⟨n, rfl⟩ : ∃ N : Nat, n = (N : Int) := ⟨n.toNat, by omega⟩
  obtain ⟨V, hVe, hVb, hM⟩ : ∃ V : World, Hid (w1.alloc (.cells #[Value.string nm, .int .i64 n, .slice A x.length c] 91) = V) ∧ Hid (Below w1.heap.size w1 V) ∧ Hid (Cells V w1.heap.size 3 (fun i => (#[Value.string nm, .int .i64 n, .slice A x.length c] : Array Value).getD i undef)) := ⟨_, Lib.hid rfl, Lib.hid ((Below.refl _ _).alloc (Nat.le_refl _) _), Lib.hid (Cells.newD _ #[Value.string nm, .int .i64 n, .slice A x.length c] _)⟩
  rw [hVe.out]
  clear hVe
  obtain ⟨bx, hbx⟩ : ∃ bx, Hid (w1.heap.size = bx) := ⟨_, Lib.hid rfl⟩
  have hVz := hM.out.lt
  rw [hbx.out] at hM hVz ⊢
  have hbe := hbx.out
  have HCV := Lib.hid (HC1.out.later hVb.out)
  have HTV := Lib.hid (HT1.out.then hVb.out)
  have HCo : Hid (Calls Tryz.prog 65 #[.agg #[Value.string nm, .int .i64 (n : Int), .slice A x.length c]] V fun e w' => ∃ (L : List ByteArray) (A2 : Option Addr) (c2 : Nat), e = .returned (.slice A2 L.length c2) ∧ 0 < L.length ∧ L.length ≤ 10080 ∧ L.length ≤ c2 ∧ (∀ r ∈ L, r.size ≤ 8) ∧ OwnL w' V.heap.size w'.heap.size A2 1 encString L ∧ Below V.heap.size V w') := Lib.hid (by
    exact l4Course_any nm n x A c V ((HO1.out.later hVb.out).rd encString_len) (by omega) (by omega) HOK.out.x0 HOK.out.x9 (fun y hy => by have := (HOK.out.ch y hy).size; omega))
  have u0 := hM.out.cell (i := 0) (by omega)
  have u1 := hM.out.cell (i := 1) (by omega)
  have u2 := hM.out.cell (i := 2) (by omega)
  go_upto_region 3 with (first | (go_at_call 65; refine HCo.out.mono ?_; rintro e w2 ⟨L, A2, c2, rfl, hL0, hLn, hLc, hLs0, ho2, hb2⟩; have hLs := Lib.hid hLs0; have HA := Lib.hid (Aw.own ho2 encString_len (show w.heap.size ≤ V.heap.size by omega)); have HM2 := Lib.hid (hM.out.later hb2); have HC2 := Lib.hid (HCV.out.later hb2); have HT2 := Lib.hid (HTV.out.then hb2); have hz2 := hb2.size; clear hLs0 ho2 hb2 u0 u1 u2) | fail)
  by_cases h200 : 200 < L.length
  · obtain ⟨L9, hL9⟩ : ∃ L9, Hid (L.take 200 = L9) := ⟨_, Lib.hid rfl⟩
    have hl9 : L9.length = 200 := by rw [← hL9.out, List.length_take]; omega
    have hLs9 : Hid (∀ r ∈ L9, r.size ≤ 8) := Lib.hid fun r hr => hLs.out r (by rw [← hL9.out] at hr; exact List.mem_of_mem_take hr)
    have HA9 : Hid (Aw w2 w.heap.size A2 1 encString L9) := Lib.hid (by rw [← hL9.out]; exact HA.out.take 200)
    have hc200 : 200 ≤ c2 := by omega
    go_upto_region 5 with fail
    rw [← hl9]
    have hL0' : 0 < L9.length := by omega
    have hLn' : L9.length ≤ 200 := by omega
    have hLc' : L9.length ≤ c2 := by omega
    clear hl9 hL9 hc200 hL0 hLn hLc h200
    have hL0 := hL0'
    have hLn := hLn'
    have hLc := hLc'
    clear hL0' hLn' hLc'
    go_upto_region 6 with (first | (go_at_call 48; refine (pick_any g (K + 100) 6 w2 HC2.out (by omega) (by omega)).mono ?_; rintro e w3 ⟨q, rfl, hq0, hq6, hc3, ht3⟩; have HC3 := Lib.hid hc3; have HT3 := Lib.hid (HT2.out.trans ht3); have hz3 := ht3.size; have HA3 := Lib.hid (HA9.out.turn ht3 (by omega)); have HM3 := Lib.hid (HM2.out.chg ht3 (.inr (by omega))); clear hc3 ht3) | fail)
    by_cases e0 : q = 0
    · have d0 : (q == (0 : Int)) = true := by simpa using e0
      clear e0
      go_wp2_with (first
        | (go_at_call 66; refine (l1OwnSG_any L9 A2 c2 w3 HA3.out.1 (by omega) hL0).mono ?_; rintro e w4 ⟨v4, rfl, hg4, hb4⟩; have HG4 := Lib.hid hg4; have HB4 := Lib.hid hb4; have hz4 := hb4.size; have HA4 := Lib.hid (HA3.out.later hb4); clear hg4 hb4)
        | (at_builtin; refine wpList_pushAll rfl (.tmp 19) (.tmp 20) 25 rfl w3.heap.size 9 _ 1 16 encString rfl String_info rfl (by omega) _ L9 L9 A2 c2 w4.heap.size rfl rfl HA4.out.1 hL0 HG4.out encString_len (by simp [encString, Value.oneCell']) (by omega) (by omega) (by omega) ?_; intro v5 w5 hg5 hb5 _; have HG5 := Lib.hid hg5; have HB5 := Lib.hid (HB4.out.trans hb5); clear hg5 hb5; obtain ⟨A5, c5, rfl, ho5⟩ := HG5.out.own encString_len; have HO5 := Lib.hid ho5; have HCP := Lib.hid HG5.out.capN; clear ho5)
        | fail)
      go_ret
      exact ⟨L9 ++ L9, A5, c5, by rw [List.length_append]; rfl, by rw [List.length_append]; omega, HCP.out, fun r hr => by rcases List.mem_append.1 hr with hr | hr <;> exact hLs9.out r hr, Aw.own HO5.out encString_len (by omega), (HC3.out.later HB5.out).more (by omega), HT3.out.then HB5.out⟩
    have d0 : (q == (0 : Int)) = false := by simpa using e0
    clear e0
    by_cases e1 : q = 1
    · have d1 : (q == (1 : Int)) = true := by simpa using e1
      clear e1
      go_wp2_with (first
        | (go_at_call 48; refine (pick_any g (K + 102) (L9.length : Int) w3 HC3.out (by omega) (by omega)).mono ?_; rintro e w4 ⟨y, rfl, hy0, hy1, hc4, ht4⟩; have HC4 := Lib.hid hc4; have HT4 := Lib.hid (HT3.out.trans ht4); have HA4 := Lib.hid (HA3.out.turn ht4 (by omega)); obtain ⟨k, rfl⟩ : ∃ k : Nat, y = (k : Int) := ⟨y.toNat, by omega⟩; have hk : k < L9.length := (by omega); have hkw : IntKind.i64.wrap ((1 : Int) + (k : Int)) = ((1 + k : Nat) : Int) := (by rw [IntWalk.i64_in _ (by omega)]; omega); have hk1 : 1 + k ≤ c2 := (by omega); clear hc4 ht4)
        | fail)
      go_ret
      exact ⟨L9.take (1 + k), A2, c2, by rw [List.length_take, Nat.min_eq_left (by omega)]; rfl, by rw [List.length_take]; omega, by rw [List.length_take]; omega, fun r hr => hLs9.out r (List.mem_of_mem_take hr), HA4.out.take (1 + k), HC4.out.more (by omega), HT4.out⟩
    have d1 : (q == (1 : Int)) = false := by simpa using e1
    clear e1
    by_cases e2 : q = 2
    · have d2 : (q == (2 : Int)) = true := by simpa using e2
      clear e2
      have m1 : w3.cell? ⟨bx, 1, none⟩ = some (.int .i64 (n : Int)) := HM3.out.cell (i := 1) (by omega)
      go_wp2_with (first
        | (go_at_call 67; refine (rowsOf_any g (K + 102) n 8 w3 HC3.out (by omega) (by omega) (by omega) (by omega)).mono ?_; rintro e w4 ⟨L4, A4, c4, rfl, h41, h42, h43, ho4, hc4, ht4⟩; have HS4 := Lib.hid h43; have HO4 := Lib.hid ho4; have HC4 := Lib.hid hc4; have HT4 := Lib.hid (HT3.out.trans ht4); clear h43 ho4 hc4 ht4)
        | fail)
      go_ret
      exact ⟨L4, A4, c4, rfl, by omega, h42, HS4.out, Aw.own HO4.out encString_len (by omega), HC4.out.more (by omega), HT4.out⟩
    have d2 : (q == (2 : Int)) = false := by simpa using e2
    clear e2
    go_wp2
    go_ret
    exact ⟨L9, A2, c2, rfl, by omega, hLc, hLs9.out, HA3.out, HC3.out.more (by omega), HT3.out⟩
  · have hLn : L.length ≤ 200 := by omega
    go_upto_region 5 with fail
    clear h200
    go_upto_region 6 with (first | (go_at_call 48; refine (pick_any g (K + 100) 6 w2 HC2.out (by omega) (by omega)).mono ?_; rintro e w3 ⟨q, rfl, hq0, hq6, hc3, ht3⟩; have HC3 := Lib.hid hc3; have HT3 := Lib.hid (HT2.out.trans ht3); have hz3 := ht3.size; have HA3 := Lib.hid (HA.out.turn ht3 (by omega)); have HM3 := Lib.hid (HM2.out.chg ht3 (.inr (by omega))); clear hc3 ht3) | fail)
    by_cases e0 : q = 0
    · have d0 : (q == (0 : Int)) = true := by simpa using e0
      clear e0
      go_wp2_with (first
        | (go_at_call 66; refine (l1OwnSG_any L A2 c2 w3 HA3.out.1 (by omega) hL0).mono ?_; rintro e w4 ⟨v4, rfl, hg4, hb4⟩; have HG4 := Lib.hid hg4; have HB4 := Lib.hid hb4; have hz4 := hb4.size; have HA4 := Lib.hid (HA3.out.later hb4); clear hg4 hb4)
        | (at_builtin; refine wpList_pushAll rfl (.tmp 19) (.tmp 20) 25 rfl w3.heap.size 9 _ 1 16 encString rfl String_info rfl (by omega) _ L L A2 c2 w4.heap.size rfl rfl HA4.out.1 hL0 HG4.out encString_len (by simp [encString, Value.oneCell']) (by omega) (by omega) (by omega) ?_; intro v5 w5 hg5 hb5 _; have HG5 := Lib.hid hg5; have HB5 := Lib.hid (HB4.out.trans hb5); clear hg5 hb5; obtain ⟨A5, c5, rfl, ho5⟩ := HG5.out.own encString_len; have HO5 := Lib.hid ho5; have HCP := Lib.hid HG5.out.capN; clear ho5)
        | fail)
      go_ret
      exact ⟨L ++ L, A5, c5, by rw [List.length_append]; rfl, by rw [List.length_append]; omega, HCP.out, fun r hr => by rcases List.mem_append.1 hr with hr | hr <;> exact hLs.out r hr, Aw.own HO5.out encString_len (by omega), (HC3.out.later HB5.out).more (by omega), HT3.out.then HB5.out⟩
    have d0 : (q == (0 : Int)) = false := by simpa using e0
    clear e0
    by_cases e1 : q = 1
    · have d1 : (q == (1 : Int)) = true := by simpa using e1
      clear e1
      go_wp2_with (first
        | (go_at_call 48; refine (pick_any g (K + 102) (L.length : Int) w3 HC3.out (by omega) (by omega)).mono ?_; rintro e w4 ⟨y, rfl, hy0, hy1, hc4, ht4⟩; have HC4 := Lib.hid hc4; have HT4 := Lib.hid (HT3.out.trans ht4); have HA4 := Lib.hid (HA3.out.turn ht4 (by omega)); obtain ⟨k, rfl⟩ : ∃ k : Nat, y = (k : Int) := ⟨y.toNat, by omega⟩; have hk : k < L.length := (by omega); have hkw : IntKind.i64.wrap ((1 : Int) + (k : Int)) = ((1 + k : Nat) : Int) := (by rw [IntWalk.i64_in _ (by omega)]; omega); have hk1 : 1 + k ≤ c2 := (by omega); clear hc4 ht4)
        | fail)
      go_ret
      exact ⟨L.take (1 + k), A2, c2, by rw [List.length_take, Nat.min_eq_left (by omega)]; rfl, by rw [List.length_take]; omega, by rw [List.length_take]; omega, fun r hr => hLs.out r (List.mem_of_mem_take hr), HA4.out.take (1 + k), HC4.out.more (by omega), HT4.out⟩
    have d1 : (q == (1 : Int)) = false := by simpa using e1
    clear e1
    by_cases e2 : q = 2
    · have d2 : (q == (2 : Int)) = true := by simpa using e2
      clear e2
      have m1 : w3.cell? ⟨bx, 1, none⟩ = some (.int .i64 (n : Int)) := HM3.out.cell (i := 1) (by omega)
      go_wp2_with (first
        | (go_at_call 67; refine (rowsOf_any g (K + 102) n 8 w3 HC3.out (by omega) (by omega) (by omega) (by omega)).mono ?_; rintro e w4 ⟨L4, A4, c4, rfl, h41, h42, h43, ho4, hc4, ht4⟩; have HS4 := Lib.hid h43; have HO4 := Lib.hid ho4; have HC4 := Lib.hid hc4; have HT4 := Lib.hid (HT3.out.trans ht4); clear h43 ho4 hc4 ht4)
        | fail)
      go_ret
      exact ⟨L4, A4, c4, rfl, by omega, h42, HS4.out, Aw.own HO4.out encString_len (by omega), HC4.out.more (by omega), HT4.out⟩
    have d2 : (q == (2 : Int)) = false := by simpa using e2
    clear e2
    go_wp2
    go_ret
    exact ⟨L, A2, c2, rfl, by omega, hLc, hLs.out, HA3.out, HC3.out.more (by omega), HT3.out⟩
set_option maxHeartbeats 1600000 in
theorem rungFew_any (g K : Nat) (w : World) (h : Cur w g K) (hK : K ≤ 1000000) :
    Calls Tryz.prog 15 #[.pointer (some ⟨g, 0, none⟩)] w fun e w' => RowsDr g (K + 200) 12 w e w' := by
  have H := Lib.hid h
  clear h
  go_enter Tryz.func15, Tryz.ntmps15
  go_upto_region 2 with (first | (go_at_call 45; refine (rung_any g K w H.out hK).mono ?_; rintro e w1 ⟨L, A2, c2, rfl, hLn, hLc, hLs0, hA0, hc1, ht1⟩; have hLs := Lib.hid hLs0; have HA := Lib.hid hA0; have HC1 := Lib.hid hc1; have HT1 := Lib.hid ht1; clear hLs0 hA0 hc1 ht1) | fail)
  by_cases h12 : 12 < L.length
  · have hc12 : 12 ≤ c2 := by omega
    go_wp2
    go_ret
    exact ⟨L.take 12, A2, c2, by rw [List.length_take, Nat.min_eq_left (by omega)]; rfl, by rw [List.length_take]; omega, by rw [List.length_take]; omega, fun r hr => hLs.out r (List.mem_of_mem_take hr), HA.out.take 12, HC1.out, HT1.out⟩
  · go_wp2
    go_ret
    exact ⟨L, A2, c2, rfl, by omega, hLc, hLs.out, HA.out, HC1.out, HT1.out⟩
theorem l21Blow_ex (st gap hand n r p : Int) (w : World) : Calls Tryz.prog 32 #[.agg #[.int .i64 st, .int .i64 gap, .int .i64 hand], .int .i64 n, .int .i64 r, .int .i64 p] w fun e w' => ∃ x, e = .returned (.int .i64 x) ∧ Below w.heap.size w w' := by
  go_enter Tryz.func32, Tryz.ntmps32
  go_wp2
  go_ret
  exact ⟨_, rfl, (Below.refl _ _).alloc (Nat.le_refl _) _⟩
theorem l1MostD_any (x y : Int) (w : World) : Calls Tryz.prog 46 #[.int .i64 x, .int .i64 y] w fun e w' => e = .returned (.int .i64 (if x < y then y else x)) ∧ w = w' := by
  by_cases h : x < y
  · have h' : ¬ y < x := by omega
    go_enter Tryz.func46, Tryz.ntmps46
    go_wp2
    go_ret
    exact ⟨rfl, rfl⟩
  · by_cases h' : y < x
    · go_enter Tryz.func46, Tryz.ntmps46
      go_wp2
      go_ret
      exact ⟨rfl, rfl⟩
    · obtain rfl : x = y := by omega
      go_enter Tryz.func46, Tryz.ntmps46
      go_wp2
      go_ret
      exact ⟨rfl, rfl⟩
theorem l1Most_ex (x y : Int) (w : World) : Calls Tryz.prog 46 #[.int .i64 x, .int .i64 y] w fun e w' => ∃ z, e = .returned (.int .i64 z) ∧ w = w' := (l1MostD_any x y w).mono fun e w' h => ⟨_, h.1, h.2⟩
set_option maxHeartbeats 6400000 in
theorem blows_any (g K : Nat) (R : List ByteArray) (A : Option Addr) (c : Nat) (st gap hand : Int) (w : World) (h : Cur w g K) (hK : K ≤ 1000000) (hR : Aw w (g + 1) A 1 encString R) (hn : R.length ≤ 12) (hs : ∀ r ∈ R, r.size ≤ 8) :
    Calls Tryz.prog 16 #[.pointer (some ⟨g, 0, none⟩), .slice A R.length c, .agg #[.int .i64 st, .int .i64 gap, .int .i64 hand]] w fun e w' => ∃ (l : List Blw) (v : Value) (b0 : Nat), e = .returned v ∧ l.length ≤ 30 ∧ w.heap.size ≤ b0 ∧ b0 ≤ w'.heap.size ∧ Grow w' b0 43 3 Blw.enc v l ∧ Cur w' g (K + 400) ∧ Turn g w w' := by
  have H := Lib.hid h
  have hgw := h.lt
  have HRw := Lib.hid hR
  have HSz := Lib.hid hs
  obtain ⟨W, hWe, hWb, hWs, hBt⟩ : ∃ W : World, Hid (w.alloc (.cells #[.int .i64 st, .int .i64 gap, .int .i64 hand] 33) = W) ∧ Hid (Below w.heap.size w W) ∧ w.heap.size + 1 = W.heap.size ∧ Hid (Cells W w.heap.size 3 (fun i => (#[Value.int .i64 st, .int .i64 gap, .int .i64 hand] : Array Value).getD i undef)) := ⟨_, Lib.hid rfl, Lib.hid ((Below.refl _ _).alloc (Nat.le_refl _) _), by simp, Lib.hid (Cells.newD _ #[Value.int .i64 st, .int .i64 gap, .int .i64 hand] _)⟩
  have HC0 := Lib.hid (H.out.later hWb.out)
  have HR0 := Lib.hid (HRw.out.later hWb.out)
  clear h hR hs
  go_enter Tryz.func16, Tryz.ntmps16
  go_upto_region 1 with fail
  rw [hWe.out]
  clear hWe
  go_wp2
  go_loopw [7, 13] (fun v i wr => ∃ (k : Nat) (l : List Blw), i = .int .i64 (k : Int) ∧ k ≤ R.length ∧ l.length ≤ 30 ∧ Grow wr W.heap.size 43 3 Blw.enc v l ∧ Cur wr g (K + 32 * k) ∧ Turn g W wr) (fun _ i _ => R.length - (intOf i).toNat)
  case atStart => exact ⟨0, [], by rfl, by omega, by simp, Grow.nil, HC0.out.more (by omega), Chg.refl _ _ _⟩
  case round =>
    obtain ⟨k, l, rfl, hk, hl30, hgr, hcu, htu⟩ := hrel
    have HG := Lib.hid hgr
    have HCu := Lib.hid hcu
    have HTu := Lib.hid htu
    have hzr := htu.size
    clear hgr hcu htu
    by_cases hlt : k < R.length
    · obtain ⟨gR, oR, hAR, hgR, hcR⟩ := (HR0.out.turn HTu.out (by omega)).1.at hlt
      have r0 := hcR 0 _ rfl
      simp only [Nat.mul_one, Nat.add_zero] at r0
      have hsz : R[k].size ≤ 8 := HSz.out _ (List.getElem_mem hlt)
      obtain ⟨s, hse⟩ : ∃ s, Hid (R[k] = s) := ⟨_, Lib.hid rfl⟩
      rw [hse.out] at r0 hsz
      obtain ⟨n9, hn9⟩ : ∃ n9, Hid (s.size = n9) := ⟨_, Lib.hid rfl⟩
      have hn98 : n9 ≤ 8 := by rw [← hn9.out]; exact hsz
      subst hAR
      clear hcR
      obtain ⟨wo, rfl⟩ : ∃ wo, wo = wr := ⟨wr, rfl⟩
      go_upto_region 6 with fail
      go_loopw [7, 10] (fun v i wr => ∃ (p : Nat) (l : List Blw), i = .int .i64 ((p : Int) + 1) ∧ p ≤ n9 ∧ l.length ≤ 30 ∧ Grow wr W.heap.size 43 3 Blw.enc v l ∧ Cur wr g (K + 32 * k + 4 * p) ∧ Turn g W wr) (fun _ i _ => 10 - (intOf i).toNat)
      case atStart => exact ⟨0, l, by rfl, by omega, hl30, HG.out, HCu.out.more (by omega), HTu.out⟩
      case round =>
        clear HG HCu HTu hl30 r0 hzr
        obtain ⟨p, l, rfl, hp, hl30, hgr, hcu, htu⟩ := hrel
        have HG := Lib.hid hgr
        have HCu := Lib.hid hcu
        have HTu := Lib.hid htu
        have hzr := htu.size
        clear hgr hcu htu
        obtain ⟨A9, c9, rfl, ho9⟩ := HG.out.own Blw_enc_len
        clear ho9
        by_cases hgo : p < n9 ∧ l.length < 30
        · obtain ⟨hp9, hl29⟩ := hgo
          have hlen : (p : Int) + 1 ≤ (s.size : Int) := by have := hn9.out; omega
          have hBtr := hBt.out.chg HTu.out (.inr (by omega))
          have b0 := hBtr.cell (i := 0) (by omega)
          have b1 := hBtr.cell (i := 1) (by omega)
          have b2 := hBtr.cell (i := 2) (by omega)
          have HBs := Lib.hid hBtr
          clear hBtr
          obtain ⟨wq, rfl⟩ : ∃ wq, wq = wr := ⟨wr, rfl⟩
          go_wp2_with (first
            | (go_at_call 17; refine (one_any g _ 10 wq HCu.out (by omega) (by omega)).mono ?_; rintro e w3 ⟨b3, rfl, hc3, ht3⟩; have HC3 := Lib.hid hc3; have HT3 := Lib.hid (HTu.out.trans ht3); have HG3 := Lib.hid (HG.out.turn ht3 (by omega)); have hz3 := ht3.size; have hBt3 := HBs.out.chg ht3 (.inr (by omega)); have b0 := hBt3.cell (i := 0) (by omega); have b1 := hBt3.cell (i := 1) (by omega); have b2 := hBt3.cell (i := 2) (by omega); clear hc3 ht3 hBt3; cases b3)
            | (go_at_call 32; refine (l21Blow_ex st gap hand _ _ _ w3).mono ?_; rintro e w4 ⟨y4, rfl, hb4⟩; have HC4 := Lib.hid (HC3.out.later hb4); have HT4 := Lib.hid (HT3.out.then hb4); have HG4 := Lib.hid (HG3.out.later hb4); have hz4 := hb4.size; clear hb4 b0 b1 b2)
            | (go_at_call 47; refine (among_any g _ w4.heap.size 7 7 _ (fun _ => True) _ (HC4.out.later ((Below.refl _ _).alloc (Nat.le_refl _) _)) (by omega) (by omega) (by omega) (Cells.lit w4 _ _ 7 rfl) (by have := HC4.out.lt; omega) (by intro k hk; rcases k with _ | _ | _ | _ | _ | _ | _ | k <;> first | exact ⟨_, rfl, trivial⟩ | omega)).mono ?_; rintro e w5 ⟨y5, rfl, _, hc5, ht5⟩; have ht5' := (Turn.of (g := g) ((Below.refl w4.heap.size w4).alloc (Nat.le_refl _) _)).trans ht5; have HC5 := Lib.hid hc5; have HT5 := Lib.hid (HT4.out.trans ht5'); have HG5 := Lib.hid (HG4.out.turn ht5' (by omega)); have hz5 := ht5'.size; clear hc5 ht5 ht5')
            | (go_at_call 46; refine (l1Most_ex _ _ _).mono ?_; rintro e w6 ⟨y6, rfl, rfl⟩)
            | (at_builtin; refine wpList_pushA rfl (.tmp 32) (.tmp 47) 26 rfl W.heap.size 43 _ 3 24 Blw.enc rfl Blow_info rfl (by omega) _ l [⟨(k : Int), (p : Int) + 1, y6⟩] 1 rfl rfl (by simp) HG5.out rfl Blw_enc_len (by simp [Value.oneCell']) (by simp only [List.length_singleton]; omega) (by omega) (by omega) ?_; intro v7 w7 g7 b7 gb7 k7; have HG7 := Lib.hid g7; have HB7 := Lib.hid b7; clear g7 b7 gb7 k7)
            | fail)
          · go_roundw
            case rel => exact ⟨p + 1, l ++ [⟨(k : Int), (p : Int) + 1, y6⟩], by go_num, by omega, by simp; omega, HG7.out, (HC5.out.keep HB7.out (by omega)).more (by omega), HT5.out.thenB (HB7.out.mono (by omega))⟩
            case measure => simp [intOf]; omega
          · go_roundw
            case rel => exact ⟨p + 1, l, by go_num, by omega, hl30, HG3.out, HC3.out.more (by omega), HT3.out⟩
            case measure => simp [intOf]; omega
        · have HNG := Lib.hid hgo
          obtain ⟨wq, rfl⟩ : ∃ wq, wq = wr := ⟨wr, rfl⟩
          by_cases hp9 : p < n9
          · have hlen : (p : Int) + 1 ≤ (s.size : Int) := by have := hn9.out; omega
            have hl3 : ¬ l.length < 30 := fun hx => HNG.out ⟨hp9, hx⟩
            clear hgo
            go_wp2
            go_roundw
            case rel => exact ⟨k + 1, l, by go_num, by omega, hl30, HG.out, HCu.out.more (by omega), HTu.out⟩
            case measure => simp [intOf]; omega
          · have hlen : ¬ (p : Int) + 1 ≤ (s.size : Int) := by have := hn9.out; omega
            clear hgo
            go_wp2
            go_roundw
            case rel => exact ⟨k + 1, l, by go_num, by omega, hl30, HG.out, HCu.out.more (by omega), HTu.out⟩
            case measure => simp [intOf]; omega
    · obtain rfl : k = R.length := by omega
      go_wp2
      go_ret
      exact ⟨l, _, W.heap.size, rfl, hl30, by omega, by omega, HG.out, HCu.out.more (by omega), (Turn.of hWb.out).trans HTu.out⟩
end Go.Proofs.YtglnehinmdmgmaaGreat
