import Derived.Test.YtkegbbndmfnolaaGreatDoorMBandsL29
import Derived.Test.YtkegbbndmfnolaaGreatDoorMBandsL25
import Derived.Test.YtkegbbndmfnolaaGreatDoorMBandsL14
import Derived.Test.YtkegbbndmfnolaaGreatDoorMBandsL32
import Derived.Test.YtkegbbndmfnolaaGreatDoorRows
import Derived.Test.YtkegbbndmfnolaaGreatDoorMBandsL01
import Derived.Test.YtkegbbndmfnolaaGreatDoorMBandsL02
/-
 The rows of a touch (the program's side), exactly.
-/
namespace Go.Proofs.YtkegbbndmfnolaaGreatDoor
open Go.RowKit
set_option linter.unusedVariables false
set_option linter.unusedSimpArgs false
set_option maxRecDepth 100000




theorem walk_cut (n : Nat) (r : ByteArray) (x : List ByteArray) : (walkL (chF n) r x (x.length + 1)).take x.length = walkL (chF n) r x x.length := walkL_take _ _ _ _ _ (Nat.le_succ _)
set_option maxHeartbeats 1600000 in
theorem leadRows_any (nm : ByteArray) (n : Nat) (r : ByteArray) (x : List ByteArray) (A : Option Addr) (c : Nat) (w : World) (h : RdL w w.heap.size A 1 encString x) (h3 : 3 ≤ n) (h8 : n ≤ 8) (hr : rowN n r) (hl : x.length ≤ 1048576) (hx : chgOk x) :
  Calls Tryz.prog 153 #[.agg #[Value.string nm, .int .i64 (n : Int), .slice A x.length c], .string r] w fun e w' => ∃ A2 c2, e = .returned (.slice A2 x.length c2) ∧ x.length ≤ c2 ∧ RdL w' w'.heap.size A2 1 encString (walkL (chF n) r x x.length) ∧ Below w.heap.size w w' := by
 obtain ⟨W, hWe, hWs, hWb, u2⟩ : ∃ W : World, Hid (w.alloc (.cells #[Value.string nm, .int .i64 (n : Int), .slice A x.length c] 26) = W) ∧ Hid (W.heap.size = w.heap.size + 1) ∧ Hid (Below w.heap.size w W) ∧ W.cell? ⟨w.heap.size, 2, none⟩ = some (.slice A x.length c) :=
  ⟨_, Lib.hid rfl, Lib.hid (by simp), Lib.hid ((Below.refl _ _).alloc (Nat.le_refl _) _), by rw [World.cell?_alloc_new]; rfl⟩
 have hWs1 : w.heap.size + 1 = W.heap.size := hWs.out.symm
 have HR : Hid (∀ W', Below W.heap.size W W' → Calls Tryz.prog 180 #[.string r, .slice A x.length c] W' fun e w' => ∃ v, e = .returned v ∧ ∃ A2 c2, v = .slice A2 (x.length + 1) c2 ∧ x.length + 1 ≤ c2 ∧ OwnL w' W'.heap.size w'.heap.size A2 1 encString (walkL (chF n) r x (x.length + 1)) ∧ Below W'.heap.size W' w' ∧ Below W.heap.size W W') := Lib.hid fun W' hb => by
  have hb2 := hWb.out.trans (hb.mono hWb.out.size)
  have := rowsUnderC_any n r x A c W' ((h.below hb2 (Nat.le_refl _)).more hb2.size) h3 h8 hr hl hx
  rw [walkL_len] at this
  exact this.mono fun e w' ⟨A2, c2, he, h1, h2, h4⟩ => ⟨_, he, A2, c2, rfl, h1, h2, h4, hb⟩
 clear h hr hx
 go_enter Tryz.func153, Tryz.ntmps153
 go_upto_region 1 with fail
 rw [hWe.out]
 clear hWe
 have f2 := Later.cell u2 (show w.heap.size < W.heap.size by omega)
 go_region_law (first | (refine step_callsX (by rfl) 180 (by rfl) #[.string r, .slice A x.length c] (by go_simp) (HR.out _ (by repeat (first | exact Below.refl _ _ | refine Below.drew ?_ | refine Below.alloc ?_ (Nat.le_refl _) _))) ?_; rintro v w1 ⟨A2, c2, rfl, hc2, ho, hb1, hbW⟩; have HO := Lib.hid ho; have HB1 := Lib.hid hb1; have HBW := Lib.hid (hbW.trans (hb1.mono hbW.size)); obtain ⟨g2, hA2, hg21, hg22, hg23⟩ := ho.someStr (by have h9 := walkL_len (chF n) r x (x.length + 1); omega); subst hA2; have v2 := (HBW.out.cell (p := ⟨w.heap.size, 2, none⟩) (show w.heap.size < W.heap.size by omega)).trans u2; have hcc : x.length ≤ c2 := (by omega); clear ho hb1 hbW))
 all_goals
  go_wp2
  go_ret
  refine ⟨_, c2, rfl, hcc, ?_, hWb.out.trans (HBW.out.mono (by omega))⟩
  have := (HO.out.rd encString_len).take x.length
  rw [walk_cut] at this
  exact this
set_option maxHeartbeats 3200000 in
theorem leadsFrom_any (nm : ByteArray) (n : Nat) (x : List ByteArray) (A : Option Addr) (c : Nat) (b s t : ByteArray) (L : List ByteArray) (A' : Option Addr) (c' : Nat) (w : World) (h : RdL w w.heap.size A 1 encString x) (hL : RdL w w.heap.size A' 1 encString L) (hLe : ∀ (k : Nat) (hk : k < L.length), L[k] = headS n x b s t k) (hLl : L.length ≤ 1000) (h3 : 3 ≤ n) (h8 : n ≤ 8) (hl : x.length ≤ 1000) (h0 : 0 < x.length) (hx : chgOk x) :
  Calls Tryz.prog 121 #[.agg #[Value.string nm, .int .i64 (n : Int), .slice A x.length c], .slice A' L.length c'] w fun e w' => ∃ A2 c2, e = .returned (.slice A2 (rowsTo n x b s t L.length).length c2) ∧ OwnL w' w.heap.size w'.heap.size A2 1 encString (rowsTo n x b s t L.length) ∧ Below w.heap.size w w' := by
 obtain ⟨W, hWe, hWs, hWb, u0, u1, u2⟩ : ∃ W : World, Hid (w.alloc (.cells #[Value.string nm, .int .i64 (n : Int), .slice A x.length c] 26) = W) ∧ Hid (W.heap.size = w.heap.size + 1) ∧ Hid (Below w.heap.size w W) ∧ W.cell? ⟨w.heap.size, 0, none⟩ = some (.string nm) ∧ W.cell? ⟨w.heap.size, 1, none⟩ = some (.int .i64 (n : Int)) ∧ W.cell? ⟨w.heap.size, 2, none⟩ = some (.slice A x.length c) :=
  ⟨_, Lib.hid rfl, Lib.hid (by simp), Lib.hid ((Below.refl _ _).alloc (Nat.le_refl _) _), by rw [World.cell?_alloc_new]; rfl, by rw [World.cell?_alloc_new]; rfl, by rw [World.cell?_alloc_new]; rfl⟩
 have hWs1 : w.heap.size + 1 = W.heap.size := hWs.out.symm
 have HLR : Hid (∀ (r : ByteArray) (W' : World), rowN n r → Below W.heap.size W W' → Calls Tryz.prog 153 #[.agg #[Value.string nm, .int .i64 (n : Int), .slice A x.length c], .string r] W' fun e w' => ∃ A2 c2, e = .returned (.slice A2 x.length c2) ∧ x.length ≤ c2 ∧ RdL w' w'.heap.size A2 1 encString (walkL (chF n) r x x.length) ∧ Below W'.heap.size W' w') := Lib.hid fun r W' hr hb => by
  have hb2 := hWb.out.trans (hb.mono hWb.out.size)
  exact leadRows_any nm n r x A c W' ((h.below hb2 (Nat.le_refl _)).more hb2.size) h3 h8 hr (by omega) hx
 have HL := Lib.hid (show RdL W W.heap.size A' 1 encString L from (hL.below hWb.out (Nat.le_refl _)).more hWb.out.size)
 have HLe := Lib.hid hLe
 clear h hL hLe hx
 go_enter Tryz.func121, Tryz.ntmps121
 go_upto_region 1 with fail
 rw [hWe.out]
 clear hWe
 go_upto_region 3 with fail
 have hprod : L.length * x.length ≤ 1000000 := Nat.mul_le_mul hLl hl
 go_loopw [5, 7, 11] (fun v q i wr => ∃ k : Nat, k ≤ L.length ∧ i = .int .i64 (k : Int) ∧ Grow wr W.heap.size 9 1 encString v (rowsTo n x b s t k) ∧ Below W.heap.size W wr) (fun _ _ i _ => L.length - (intOf i).toNat)
 case atStart => exact ⟨0, Nat.zero_le _, rfl, Grow.empty (Nat.le_refl _), (Below.refl _ _).alloc (Nat.le_refl _) _⟩
 case round =>
  obtain ⟨k, hk, rfl, hg, hbl⟩ := hrel
  have HG := Lib.hid hg
  have HB := Lib.hid hbl
  have hzr := hbl.size
  clear hg hbl
  have hRl : (rowsTo n x b s t k).length ≤ 1000000 := by
   rw [rowsTo_len]; exact Nat.le_trans (Nat.mul_le_mul_right _ hk) hprod
  by_cases hlt : k < L.length
  ·obtain ⟨gr, offr, hAr, hgr, hcr⟩ := HL.out.at hlt
   subst hAr
   have s0 : wr.cell? ⟨gr, offr + k, none⟩ = some (.string L[k]) := (HB.out.cell (p := ⟨gr, offr + k, none⟩) hgr).trans (by have := hcr 0 _ rfl; rw [Nat.mul_one] at this; exact this)
   rw [HLe.out k hlt] at s0
   clear hcr
   have v0 := (HB.out.cell (p := ⟨w.heap.size, 0, none⟩) (show w.heap.size < W.heap.size by omega)).trans u0
   have v1 := (HB.out.cell (p := ⟨w.heap.size, 1, none⟩) (show w.heap.size < W.heap.size by omega)).trans u1
   have v2 := (HB.out.cell (p := ⟨w.heap.size, 2, none⟩) (show w.heap.size < W.heap.size by omega)).trans u2
   have hHr := Lib.hid (headS_row h3 h8 x b s t k)
   have hY : Hid (rowsTo n x b s t (k + 1) = rowsTo n x b s t k ++ walkL (chF n) (headS n x b s t k) x x.length) := Lib.hid rfl
   obtain ⟨r, hr⟩ : ∃ r, Hid (headS n x b s t k = r) := ⟨_, Lib.hid rfl⟩
   rw [hr.out] at s0 hHr hY
   have hYl : Hid ((walkL (chF n) r x x.length).length = x.length) := Lib.hid (walkL_len _ _ _ _)
   have HLd := Lib.hid (HLR.out r wr hHr.out HB.out)
   obtain ⟨Y, hYe⟩ : ∃ Y, Hid (walkL (chF n) r x x.length = Y) := ⟨_, Lib.hid rfl⟩
   rw [hYe.out] at hY hYl HLd
   rw [← hYl.out] at HLd
   have hY0 : 0 < Y.length := by have := hYl.out; omega
   have hY1 : Y.length ≤ 1000 := by have := hYl.out; omega
   rw [hYl.out] at HLd
   obtain ⟨R, hR⟩ : ∃ R, Hid (rowsTo n x b s t k = R) := ⟨_, Lib.hid rfl⟩
   rw [hR.out] at HG hY hRl
   go_wp2_with (first
    | (go_at_call 153; refine HLd.out.mono ?_; rintro e w4 ⟨A4, c4, rfl, hc4, ho4, hb4⟩; have HO4 := Lib.hid ho4; have HB4 := Lib.hid hb4; have hz4 := hb4.size; have HG4 := Lib.hid (HG.out.later hb4); clear ho4 hb4)
    | (at_builtin; refine wpList_pushAllA rfl (.tmp 15) (.tmp 18) 24 rfl W.heap.size 9 _ 1 16 encString rfl String_info rfl (by omega) _ R Y A4 c4 _ rfl (by rw [hYl.out]; rfl) HO4.out hY0 HG4.out encString_len (by simp [encString, Value.oneCell']) (by omega) (by omega) (by omega) ?_; intro v5 w5 g5 b5 gb5 k5; have HG5 := Lib.hid g5; have HB5 := Lib.hid ((HB.out.trans (HB4.out.mono hzr)).trans b5); clear g5 b5 gb5 k5))
   go_roundw
   case rel => exact ⟨k + 1, by omega, by go_num, by rw [hY.out]; exact HG5.out, HB5.out⟩
   case measure => simp [intOf]; omega
  ·obtain rfl : k = L.length := by omega
   obtain ⟨A5, c5, rfl, ho5⟩ := HG.out.own encString_len
   have HO5 := Lib.hid ho5
   clear ho5
   go_wp2
   go_ret
   exact ⟨A5, c5, rfl, HO5.out.mono (by omega) (Nat.le_refl _), hWb.out.trans (HB.out.mono (by omega))⟩
open Classical in
/-- The rows of a touch, where they are not too many. -/
noncomputable def tRow (n : Nat) (x : List ByteArray) (b s t : ByteArray) : List ByteArray × Bool := if t.size * x.length ≤ 800 then (rowsL9 n x b s t, true) else ([], false)
def TRowOut (r : List ByteArray × Bool) (w : World) (e : Ending) (w' : World) : Prop := ∃ A c, e = .returned (.tuple #[.slice A r.1.length c, .bool r.2]) ∧ OwnL w' w.heap.size w'.heap.size A 1 encString r.1 ∧ Below w.heap.size w w'
theorem TRowOut.no {r : List ByteArray × Bool} {w w' : World} (hr : r = ([], false)) (hb : Below w.heap.size w w') : TRowOut r w (.returned (.tuple #[.slice none 0 0, .bool false])) w' := by
 subst hr; exact ⟨none, 0, rfl, OwnL.nil, hb⟩
theorem TRowOut.yes {r : List ByteArray × Bool} {l : List ByteArray} {A : Option Addr} {c : Nat} {w w' : World} (hr : r = (l, true)) (ho : OwnL w' w.heap.size w'.heap.size A 1 encString l) (hb : Below w.heap.size w w') : TRowOut r w (.returned (.tuple #[.slice A l.length c, .bool true])) w' := by
 subst hr; exact ⟨A, c, rfl, ho, hb⟩
set_option maxHeartbeats 3200000 in
theorem touchRows_any (nm : ByteArray) (n : Nat) (x : List ByteArray) (A : Option Addr) (c : Nat) (b s t : ByteArray) (w : World) (h : RdL w w.heap.size A 1 encString x) (h3 : 3 ≤ n) (h8 : n ≤ 8) (hl : x.length ≤ 1000) (h0 : 0 < x.length) (hx : callsOk n x b s) (hxx : chgOk x) (ht : touchP t) :
  Calls Tryz.prog 66 #[.agg #[Value.string nm, .int .i64 (n : Int), .slice A x.length c], .agg #[Value.string b, .string s], .string t] w fun e w' => TRowOut (tRow n x b s t) w e w' := by
 obtain ⟨W, hWe, hWb, hWs, hM, hK⟩ : ∃ W : World, Hid ((w.alloc (.cells #[Value.string nm, .int .i64 (n : Int), .slice A x.length c] 26)).alloc (.cells #[Value.string b, .string s] 28) = W) ∧ Hid (Below w.heap.size w W) ∧ w.heap.size + 2 ≤ W.heap.size ∧ Hid (Cells W w.heap.size 3 (fun i => (#[Value.string nm, .int .i64 (n : Int), .slice A x.length c] : Array Value).getD i undef)) ∧ Hid (Cells W (w.heap.size + 1) 2 (fun i => (#[Value.string b, .string s] : Array Value).getD i undef)) := by
  have z1 : w.heap.size + 1 = (w.alloc (.cells #[Value.string nm, .int .i64 (n : Int), .slice A x.length c] 26)).heap.size := by simp
  refine ⟨_, Lib.hid rfl, Lib.hid (((Below.refl _ _).alloc (Nat.le_refl _) _).alloc (by simp) _), by simp, Lib.hid ?_, Lib.hid ?_⟩
  ·exact (Cells.newD _ #[Value.string nm, .int .i64 (n : Int), .slice A x.length c] _).alloc _
  ·rw [z1]; exact Cells.newD _ #[Value.string b, .string s] _
 have hts := ht.2.2
 have ht1 := ht.2.1
 have HH : Hid (∀ W', Below W.heap.size W W' → Calls Tryz.prog 122 #[.agg #[Value.string nm, .int .i64 (n : Int), .slice A x.length c], .agg #[Value.string b, .string s], .string t] W' fun e w' => ∃ v, e = .returned v ∧ ∃ A2 c2, v = .slice A2 (t.size + 1) c2 ∧ t.size + 1 ≤ c2 ∧ OwnL w' W'.heap.size w'.heap.size A2 1 encString (headsL n x b s t (t.size + 1)) ∧ Below W'.heap.size W' w' ∧ Below W.heap.size W W') := Lib.hid fun W' hb => by
  have hb2 := hWb.out.trans (hb.mono hWb.out.size)
  exact (headsC_any nm n x A c b s t W' ((h.below hb2 (Nat.le_refl _)).more hb2.size) h3 h8 (by omega) h0 hx ht).mono fun e w' ⟨A2, c2, he, h1, h2, h4⟩ => ⟨_, he, A2, c2, rfl, h1, h2, h4, hb⟩
 have HF : Hid (∀ (W' : World) (A2 : Option Addr) (c2 : Nat), Below W.heap.size W W' → RdL W' W'.heap.size A2 1 encString ((headsL n x b s t (t.size + 1)).take t.size) → Calls Tryz.prog 121 #[.agg #[Value.string nm, .int .i64 (n : Int), .slice A x.length c], .slice A2 t.size c2] W' fun e w' => ∃ v, e = .returned v ∧ ∃ A3 c3, v = .slice A3 (rowsL9 n x b s t).length c3 ∧ OwnL w' W'.heap.size w'.heap.size A3 1 encString (rowsL9 n x b s t) ∧ Below W'.heap.size W' w' ∧ Below W.heap.size W W') := Lib.hid fun W' A2 c2 hb hr => by
  have hb2 := hWb.out.trans (hb.mono hWb.out.size)
  have hl9 : ((headsL n x b s t (t.size + 1)).take t.size).length = t.size := by rw [List.length_take]; unfold headsL; rw [walkL_len]; omega
  have := leadsFrom_any nm n x A c b s t _ A2 c2 W' ((h.below hb2 (Nat.le_refl _)).more hb2.size) hr (fun k hk => by
   rw [List.getElem_take]; exact walkL_at _ _ _ _ k _) (by rw [hl9]; omega) h3 h8 hl h0 hxx
  rw [hl9] at this
  exact this.mono fun e w' ⟨A3, c3, he, h1, h2⟩ => ⟨_, he, A3, c3, rfl, h1, h2, hb⟩
 obtain ⟨P, hP⟩ : ∃ P, Hid (t.size * x.length = P) := ⟨_, Lib.hid rfl⟩
 have hPb : P ≤ 60000 := by rw [← hP.out]; exact Nat.le_trans (Nat.mul_le_mul hts hl) (by omega)
 have wmul : IntKind.i64.wrap ((t.size : Int) * (x.length : Int)) = (P : Int) := by
  have e : (t.size : Int) * (x.length : Int) = (P : Int) := by rw [← hP.out]; push_cast; rfl
  rw [e]; exact IntWalk.i64_in _ (by omega)
 have u0 : W.cell? ⟨w.heap.size, 0, none⟩ = some (.string nm) := hM.out.cell (i := 0) (by omega)
 have u1 : W.cell? ⟨w.heap.size, 1, none⟩ = some (.int .i64 (n : Int)) := hM.out.cell (i := 1) (by omega)
 have u2 : W.cell? ⟨w.heap.size, 2, none⟩ = some (.slice A x.length c) := hM.out.cell (i := 2) (by omega)
 have u3 : W.cell? ⟨w.heap.size + 1, 0, none⟩ = some (.string b) := hK.out.cell (i := 0) (by omega)
 have u4 : W.cell? ⟨w.heap.size + 1, 1, none⟩ = some (.string s) := hK.out.cell (i := 1) (by omega)
 clear h hx hxx ht
 by_cases hle : P ≤ 800
 ·have hD : Hid (tRow n x b s t = (rowsL9 n x b s t, true)) := Lib.hid (by unfold tRow; rw [hP.out, if_pos hle])
  have hn : ¬ (800 : Int) < (P : Int) := by omega
  go_enter Tryz.func66, Tryz.ntmps66
  go_upto_region 1 with fail
  rw [hWe.out]
  clear hWe
  go_upto_region 3 with fail
  have f0 := Later.cell u0 (show w.heap.size < W.heap.size by omega)
  have f1 := Later.cell u1 (show w.heap.size < W.heap.size by omega)
  have f2 := Later.cell u2 (show w.heap.size < W.heap.size by omega)
  have f3 := Later.cell u3 (show w.heap.size + 1 < W.heap.size by omega)
  have f4 := Later.cell u4 (show w.heap.size + 1 < W.heap.size by omega)
  have hct : (t.size : Int) ≤ (t.size : Int) + 1 := by omega
  go_region_law (first
   | (refine step_callsX (by rfl) 122 (by rfl) #[.agg #[Value.string nm, .int .i64 (n : Int), .slice A x.length c], .agg #[Value.string b, .string s], .string t] (by go_simp) (HH.out _ (by repeat (first | exact Below.refl _ _ | refine Below.drew ?_ | refine Below.alloc ?_ (Nat.le_refl _) _))) ?_; rintro v w1 ⟨A2, c2, rfl, hc2, ho, hb1, hbW⟩; have HO := Lib.hid ho; have HB1 := Lib.hid hb1; have HBW := Lib.hid (hbW.trans (hb1.mono hbW.size)); obtain ⟨g2, hA2, hg21, hg22, hg23⟩ := ho.someStr (by have h9 : (headsL n x b s t (t.size + 1)).length = t.size + 1 := walkL_len _ _ _ _; omega); subst hA2; have v0 := (HBW.out.cell (p := ⟨w.heap.size, 0, none⟩) (show w.heap.size < W.heap.size by omega)).trans u0; have v1 := (HBW.out.cell (p := ⟨w.heap.size, 1, none⟩) (show w.heap.size < W.heap.size by omega)).trans u1; have v2 := (HBW.out.cell (p := ⟨w.heap.size, 2, none⟩) (show w.heap.size < W.heap.size by omega)).trans u2; have hcc : t.size ≤ c2 := (by omega); have HF1 := Lib.hid (fun (W9 : World) (hb9 : Below w1.heap.size w1 W9) => HF.out W9 (some ⟨g2, 0, none⟩) c2 (HBW.out.trans (hb9.mono HBW.out.size)) ((((HO.out.rd encString_len).take t.size).below hb9 (Nat.le_refl _)).more hb9.size)); clear ho hb1 hbW)
   | (refine step_callsX (by rfl) 121 (by rfl) #[.agg #[Value.string nm, .int .i64 (n : Int), .slice A x.length c], .slice (some ⟨g2, 0, none⟩) t.size c2] (by go_simp) (HF1.out _ (by repeat (first | exact Below.refl _ _ | refine Below.drew ?_ | refine Below.alloc ?_ (Nat.le_refl _) _))) ?_; rintro v w3 ⟨A3, c3, rfl, ho3, hb3, hbW3⟩; have HO3 := Lib.hid ho3; have HB3 := Lib.hid (hbW3.trans (hb3.mono hbW3.size)); have hz3 := hbW3.size; clear hb3 hbW3 ho3))
  all_goals
   go_wp2
   go_ret2
   exact TRowOut.yes hD.out (HO3.out.mono (by omega) (Nat.le_refl _)) (hWb.out.trans (HB3.out.mono (by omega)))
 ·have hD : Hid (tRow n x b s t = ([], false)) := Lib.hid (by unfold tRow; rw [hP.out, if_neg hle])
  have hn : (800 : Int) < (P : Int) := by omega
  go_enter Tryz.func66, Tryz.ntmps66
  go_upto_region 1 with fail
  rw [hWe.out]
  clear hWe
  go_wp2
  go_ret2
  exact TRowOut.no hD.out hWb.out
end Go.Proofs.YtkegbbndmfnolaaGreatDoor

/-
 TouchRows of the program: its rows, in every case.
-/
namespace Go.Proofs.YtkegbbndmfnolaaGreatDoor
open Go.RowKit
set_option linter.unusedVariables false
set_option linter.unusedSimpArgs false
set_option maxRecDepth 100000

open Classical in
/-- What TouchRows answers. -/
noncomputable def trR (m : Mth) (b s t : ByteArray) : List ByteArray × Bool := if callsP m b s ∧ touchP t then tRow m.stage.toNat m.x b s t else ([], false)
theorem trR_t {m : Mth} {b s t : ByteArray} (h : callsP m b s ∧ touchP t) : trR m b s t = tRow m.stage.toNat m.x b s t := if_pos h
theorem trR_f {m : Mth} {b s t : ByteArray} (h : ¬ (callsP m b s ∧ touchP t)) : trR m b s t = ([], false) := if_neg h
theorem rowsL9_le (n : Nat) (x : List ByteArray) (b s t : ByteArray) : (rowsL9 n x b s t).length = t.size * x.length := by unfold rowsL9; rw [rowsTo_len]
theorem tRow_small (n : Nat) (x : List ByteArray) (b s t : ByteArray) : (tRow n x b s t).1.length ≤ 800 := by
 unfold tRow
 split
 ·rename_i h; show (rowsL9 n x b s t).length ≤ 800; rw [rowsL9_le]; exact h
 ·exact Nat.zero_le _
theorem trR_small (m : Mth) (b s t : ByteArray) : (trR m b s t).1.length ≤ 800 := by
 unfold trR
 split
 ·exact tRow_small _ _ _ _ _
 ·exact Nat.zero_le _




set_option maxHeartbeats 1600000 in
theorem iTouchRows_any (m : Mth) (b s t : ByteArray) (w : World) (h : MkOk m b s w) (ht : t.size ≤ 1048576) : Calls Tryz.prog 11 #[.agg #[Value.string m.name, .int .i64 m.stage, .slice m.A m.x.length m.c], .agg #[Value.string b, .string s], .string t] w fun e w' => TRowOut (trR m b s t) w e w' := by
 by_cases cg : callsP m b s ∧ touchP t
 ·have e0 := B_t cg
  have hg := cg.1.geo
  have hxl : m.x.length ≤ 40 := cg.1.1.2.1.2
  have hD : Hid (trR m b s t = tRow m.stage.toNat m.x b s t) := Lib.hid (trR_t cg)
  obtain ⟨r, hr⟩ : ∃ r, Hid (tRow m.stage.toNat m.x b s t = r) := ⟨_, Lib.hid rfl⟩
  have hst : ((m.stage.toNat : Nat) : Int) = m.stage := by have := cg.1.1.2.stage.1; omega
  have htr : Hid (∀ W, MkOk m b s W → Calls Tryz.prog 66 #[.agg #[Value.string m.name, .int .i64 m.stage, .slice m.A m.x.length m.c], .agg #[Value.string b, .string s], .string t] W fun e w' => ∃ A c, e = .returned (.tuple #[.slice A r.1.length c, .bool r.2]) ∧ OwnL w' W.heap.size w'.heap.size A 1 encString r.1 ∧ Below W.heap.size W w') := Lib.hid fun W hW => by
   have := touchRows_any m.name m.stage.toNat m.x m.A m.c b s t W hW.rd hg.n3 hg.n8 (by omega) hg.l0 hg.ok (chgOk_of cg.1.1.2.2) cg.2
   rw [hst, hr.out] at this
   exact this
  clear cg hg hst
  obtain ⟨rl, rb⟩ := r
  simp only at htr
  obtain ⟨W, hWe, hWb, hWs, hM, hK⟩ : ∃ W : World, Hid ((w.alloc (.cells #[Value.string m.name, .int .i64 m.stage, .slice m.A m.x.length m.c] 26)).alloc (.cells #[Value.string b, .string s] 28) = W) ∧ Hid (Below w.heap.size w W) ∧ w.heap.size + 2 ≤ W.heap.size ∧ Hid (Cells W w.heap.size 3 (fun i => (#[Value.string m.name, .int .i64 m.stage, .slice m.A m.x.length m.c] : Array Value).getD i undef)) ∧ Hid (Cells W (w.heap.size + 1) 2 (fun i => (#[Value.string b, .string s] : Array Value).getD i undef)) := by
   have z1 : w.heap.size + 1 = (w.alloc (.cells #[Value.string m.name, .int .i64 m.stage, .slice m.A m.x.length m.c] 26)).heap.size := by simp
   refine ⟨_, Lib.hid rfl, Lib.hid (((Below.refl _ _).alloc (Nat.le_refl _) _).alloc (by simp) _), by simp, Lib.hid ?_, Lib.hid ?_⟩
   ·exact (Cells.newD _ #[Value.string m.name, .int .i64 m.stage, .slice m.A m.x.length m.c] _).alloc _
   ·rw [z1]; exact Cells.newD _ #[Value.string b, .string s] _
  have H := Lib.hid (h.later hWb.out)
  clear h
  have u0 : (W).cell? ⟨w.heap.size, 0, none⟩ = some (.string m.name) := (hM.out).cell (i := 0) (by omega); have u1 : (W).cell? ⟨w.heap.size, 1, none⟩ = some (.int .i64 m.stage) := (hM.out).cell (i := 1) (by omega); have u2 : (W).cell? ⟨w.heap.size, 2, none⟩ = some (.slice m.A m.x.length m.c) := (hM.out).cell (i := 2) (by omega); have u3 : (W).cell? ⟨w.heap.size + 1, 0, none⟩ = some (.string b) := (hK.out).cell (i := 0) (by omega); have u4 : (W).cell? ⟨w.heap.size + 1, 1, none⟩ = some (.string s) := (hK.out).cell (i := 1) (by omega)
  go_enter Tryz.func11, Tryz.ntmps11
  go_wp2_with fail
  rw [hWe.out]
  clear hWe
  go_wp2_with (first
   | (go_at_call 56; refine (goodFor_any m b s t _ H.out ht).mono ?_; rintro e w1 ⟨rfl, hb1⟩; have HB1 := Lib.hid hb1; have hz1 := hb1.size; have HM1 := Lib.hid (hM.out.later hb1); have HK1 := Lib.hid (hK.out.later hb1); clear hb1 u0 u1 u2 u3 u4; have u0 : (w1).cell? ⟨w.heap.size, 0, none⟩ = some (.string m.name) := (HM1.out).cell (i := 0) (by omega); have u1 : (w1).cell? ⟨w.heap.size, 1, none⟩ = some (.int .i64 m.stage) := (HM1.out).cell (i := 1) (by omega); have u2 : (w1).cell? ⟨w.heap.size, 2, none⟩ = some (.slice m.A m.x.length m.c) := (HM1.out).cell (i := 2) (by omega); have u3 : (w1).cell? ⟨w.heap.size + 1, 0, none⟩ = some (.string b) := (HK1.out).cell (i := 0) (by omega); have u4 : (w1).cell? ⟨w.heap.size + 1, 1, none⟩ = some (.string s) := (HK1.out).cell (i := 1) (by omega))
   | (go_at_call 66; refine (htr.out w1 (H.out.later HB1.out)).mono ?_; rintro e w2 ⟨A2, c2, rfl, ho2, hb2⟩; have HO2 := Lib.hid ho2; have HB2 := Lib.hid hb2; have hz2 := hb2.size; clear ho2 hb2 u0 u1 u2 u3 u4)
   | fail)
  go_ret2
  rw [hD.out, hr.out]
  exact ⟨A2, c2, rfl, HO2.out.mono (by omega) (Nat.le_refl _), hWb.out.trans ((HB1.out.trans (HB2.out.mono hz1)).mono (by omega))⟩
 ·have e0 := B_f cg
  have hD : Hid (trR m b s t = ([], false)) := Lib.hid (trR_f cg)
  clear cg
  obtain ⟨W, hWe, hWb, hWs, hM, hK⟩ : ∃ W : World, Hid ((w.alloc (.cells #[Value.string m.name, .int .i64 m.stage, .slice m.A m.x.length m.c] 26)).alloc (.cells #[Value.string b, .string s] 28) = W) ∧ Hid (Below w.heap.size w W) ∧ w.heap.size + 2 ≤ W.heap.size ∧ Hid (Cells W w.heap.size 3 (fun i => (#[Value.string m.name, .int .i64 m.stage, .slice m.A m.x.length m.c] : Array Value).getD i undef)) ∧ Hid (Cells W (w.heap.size + 1) 2 (fun i => (#[Value.string b, .string s] : Array Value).getD i undef)) := by
   have z1 : w.heap.size + 1 = (w.alloc (.cells #[Value.string m.name, .int .i64 m.stage, .slice m.A m.x.length m.c] 26)).heap.size := by simp
   refine ⟨_, Lib.hid rfl, Lib.hid (((Below.refl _ _).alloc (Nat.le_refl _) _).alloc (by simp) _), by simp, Lib.hid ?_, Lib.hid ?_⟩
   ·exact (Cells.newD _ #[Value.string m.name, .int .i64 m.stage, .slice m.A m.x.length m.c] _).alloc _
   ·rw [z1]; exact Cells.newD _ #[Value.string b, .string s] _
  have H := Lib.hid (h.later hWb.out)
  clear h
  have u0 : (W).cell? ⟨w.heap.size, 0, none⟩ = some (.string m.name) := (hM.out).cell (i := 0) (by omega); have u1 : (W).cell? ⟨w.heap.size, 1, none⟩ = some (.int .i64 m.stage) := (hM.out).cell (i := 1) (by omega); have u2 : (W).cell? ⟨w.heap.size, 2, none⟩ = some (.slice m.A m.x.length m.c) := (hM.out).cell (i := 2) (by omega); have u3 : (W).cell? ⟨w.heap.size + 1, 0, none⟩ = some (.string b) := (hK.out).cell (i := 0) (by omega); have u4 : (W).cell? ⟨w.heap.size + 1, 1, none⟩ = some (.string s) := (hK.out).cell (i := 1) (by omega)
  go_enter Tryz.func11, Tryz.ntmps11
  go_wp2_with fail
  rw [hWe.out]
  clear hWe
  go_wp2_with (first
   | (go_at_call 56; refine (goodFor_any m b s t _ H.out ht).mono ?_; rintro e w1 ⟨rfl, hb1⟩; have HB1 := Lib.hid hb1; have hz1 := hb1.size; clear hb1 u0 u1 u2 u3 u4)
   | fail)
  go_ret2
  exact TRowOut.no hD.out (hWb.out.trans (HB1.out.mono (by omega)))
end Go.Proofs.YtkegbbndmfnolaaGreatDoor

/-
 A law's argument of bytes.
-/
namespace Go.Proofs.YtkegbbndmfnolaaGreatDoor
open Go.RowKit Go.ChangeShapes Go.WideShapes
set_option linter.unusedVariables false
set_option linter.unusedSimpArgs false
set_option maxRecDepth 100000
def Byte_small (lim : Int) (x : Int) : Prop := 0 ≤ x ∧ x < 256
theorem Byte_el {H : Type} {en : TypeId × Value → H} {w : World} {base : Nat} {spare : Nat → Bool} {held : Bool} (n : Nat) (cs : List Value) (y : DataW H × List MemPlace) (h : DataW.trod en Tryz.prog w base spare held n 5 cs = some y) : ∃ x : Int, cs = encByte x ∧ Byte_small 9223372036854775807 x := by
 obtain ⟨a, rfl, _, hw⟩ := DataW.trod_int Tryz.underlying5 h
 refine ⟨a, rfl, ?_⟩
 simp [Lit.wf, IntKind.min, IntKind.max, IntKind.signed, IntKind.bits] at hw
 unfold Byte_small; omega
end Go.Proofs.YtkegbbndmfnolaaGreatDoor
