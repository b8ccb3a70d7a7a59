import Derived.Test.YtkegbbndmfnolaaGreatMSpokenL28
import Derived.Test.YtkegbbndmfnolaaGreatMSpokenL29
import Derived.Test.YtkegbbndmfnolaaGreatMSpokenL30
import Derived.Test.YtkegbbndmfnolaaGreatMSpokenL05
/-
  The rows behind spoken words: contracts of both sides.
-/
namespace Go.Proofs.YtkegbbndmfnolaaGreat
open Go.RowKit
set_option linter.unusedVariables false
set_option linter.unusedSimpArgs false
set_option maxRecDepth 100000

open Classical in
/-- What RowsSaid answers. -/
noncomputable def rsR (m : Mth) (b s : ByteArray) (l : List Spk) : List ByteArray × Bool :=
  if (saidR m b s l).2.2 = true ∧ (saidR m b s l).2.1.toNat + (saidR m b s l).1.size * m.x.length + 2 ≤ 800 then (List.replicate (saidR m b s l).2.1.toNat (roundsS m.stage) ++ rowsL9 m.stage.toNat m.x b s (saidR m b s l).1 ++ [roundsS m.stage, roundsS m.stage], true) else ([], false)
theorem rsR_no {m : Mth} {b s : ByteArray} {l : List Spk} (h : saidR m b s l = (⟨#[]⟩, 0, false)) : rsR m b s l = ([], false) := by
  unfold rsR; rw [h, if_neg (by simp)]
theorem rsR_y {m : Mth} {b s t : ByteArray} {l : List Spk} {f : Nat} (h : saidR m b s l = (t, (f : Int), true)) (hle : f + t.size * m.x.length + 2 ≤ 800) : rsR m b s l = (List.replicate f (roundsS m.stage) ++ rowsL9 m.stage.toNat m.x b s t ++ [roundsS m.stage, roundsS m.stage], true) := by
  unfold rsR; rw [h]; simp only [Int.toNat_natCast]; rw [if_pos ⟨trivial, hle⟩]
theorem rsR_n {m : Mth} {b s t : ByteArray} {l : List Spk} {f : Nat} (h : saidR m b s l = (t, (f : Int), true)) (hle : ¬ f + t.size * m.x.length + 2 ≤ 800) : rsR m b s l = ([], false) := by
  unfold rsR; rw [h]; simp only [Int.toNat_natCast]; rw [if_neg (fun x => hle x.2)]
theorem rsR_small (m : Mth) (b s : ByteArray) (l : List Spk) : (rsR m b s l).1.length ≤ 800 := by
  unfold rsR
  split
  · rename_i h
    have h1 := h.2
    have e : (rowsL9 m.stage.toNat m.x b s (saidR m b s l).1).length = (saidR m b s l).1.size * m.x.length := by unfold rowsL9; rw [rowsTo_len]
    simp only [List.length_append, List.length_replicate, List.length_cons, List.length_nil, e]
    omega
  · exact Nat.zero_le _
theorem TRowOut.yesN {r : List ByteArray × Bool} {l : List ByteArray} {A : Option Addr} {n c : Nat} {w w' : World} (hr : r = (l, true)) (hn : n = l.length) (ho : OwnL w' w.heap.size w'.heap.size A 1 encString l) (hb : Below w.heap.size w w') : TRowOut r w (.returned (.tuple #[.slice A n c, .bool true])) w' := by
  subst hr hn; exact ⟨A, c, rfl, ho, hb⟩
theorem rd_two {w : World} {r : ByteArray} : RdL (w.alloc (.cells #[.string r, .string r] 9)) (w.alloc (.cells #[.string r, .string r] 9)).heap.size (some ⟨w.heap.size, 0, none⟩) 1 encString [r, r] := by
  obtain ⟨A, c, e1, e2⟩ := (Grow.lit (w := w) (b := w.heap.size) (e := 9) (enc := encString) [r, r] (news := [.string r, .string r]) rfl (Nat.le_refl _) (by simp [maxLen]) encString_len).own encString_len
  injection e1 with e1 _ _
  rw [e1]; exact e2.rd encString_len
/-- Rows and a sign as a result, with the slice's room. -/
def TRowOutC (r : List ByteArray × Bool) (w : World) (e : Ending) (w' : World) : Prop := ∃ A c, e = .returned (.tuple #[.slice A r.1.length c, .bool r.2]) ∧ r.1.length ≤ c ∧ OwnL w' w.heap.size w'.heap.size A 1 encString r.1 ∧ Below w.heap.size w w'
theorem TRowOutC.no {r : List ByteArray × Bool} {w w' : World} (hr : r = ([], false)) (hb : Below w.heap.size w w') : TRowOutC r w (.returned (.tuple #[.slice none 0 0, .bool false])) w' := by
  subst hr; exact ⟨none, 0, rfl, Nat.le_refl _, OwnL.nil, hb⟩
theorem TRowOutC.yesN {r : List ByteArray × Bool} {l : List ByteArray} {A : Option Addr} {n c : Nat} {w w' : World} (hr : r = (l, true)) (hn : n = l.length) (hc : l.length ≤ c) (ho : OwnL w' w.heap.size w'.heap.size A 1 encString l) (hb : Below w.heap.size w w') : TRowOutC r w (.returned (.tuple #[.slice A n c, .bool true])) w' := by
  subst hr hn; exact ⟨A, c, rfl, hc, ho, hb⟩
set_option maxHeartbeats 3200000 in
theorem iRowsSaidC_any (m : Mth) (b s : ByteArray) (l : List Spk) (A' : Option Addr) (c' : Nat) (w : World) (h : MkOk m b s w) (hh : RdL w w.heap.size A' 2 Spk.enc l) (hl : l.length ≤ 1048576) (hcap : l.length ≤ c') :
    Calls Tryz.prog 22 #[.agg #[Value.string m.name, .int .i64 m.stage, .slice m.A m.x.length m.c], .agg #[Value.string b, .string s], .slice A' l.length c'] w fun e w' => TRowOutC (rsR m b s l) w e w' := by
  obtain ⟨D, hDD⟩ : ∃ D, Hid (saidR m b s l = D) := ⟨_, Lib.hid rfl⟩
  have hsaid : Hid (∀ W, MkOk m b s W → RdL W W.heap.size A' 2 Spk.enc l → Calls Tryz.prog 20 #[.agg #[Value.string m.name, .int .i64 m.stage, .slice m.A m.x.length m.c], .agg #[Value.string b, .string s], .slice A' l.length c'] W fun e w' => e = .returned (.tuple #[.string D.1, .int .i64 D.2.1, .bool D.2.2]) ∧ Below W.heap.size W w') := Lib.hid fun W h1 h2 => by
    have := iTouchSaid_any m b s l A' c' W h1 h2 hl hcap
    rw [hDD.out] at this; exact this
  by_cases hex : ∃ t first, saidP m b s l t first
  rotate_left
  · have hD := saidR_f (m := m) (b := b) (s := s) (l := l) (fun t f hx => hex ⟨t, f, hx⟩)
    have hRs := Lib.hid (rsR_no hD)
    rw [hDD.out] at hD
    subst hD
    simp only at hsaid
    clear hex
    obtain ⟨W, hWe, hWb, hWs, hM, hK⟩ : ∃ W : World, Hid ((w.alloc (.cells #[Value.string m.name, .int .i64 m.stage, .slice m.A m.x.length m.c] 45)).alloc (.cells #[Value.string b, .string s] 47) = W) ∧ Hid (Below w.heap.size w W) ∧ w.heap.size + 2 ≤ W.heap.size ∧ Hid (Cells W w.heap.size 3 (fun i => (#[Value.string m.name, .int .i64 m.stage, .slice m.A m.x.length m.c] : Array Value).getD i undef)) ∧ Hid (Cells W (w.heap.size + 1) 2 (fun i => (#[Value.string b, .string s] : Array Value).getD i undef)) := by
      have z1 : w.heap.size + 1 = (w.alloc (.cells #[Value.string m.name, .int .i64 m.stage, .slice m.A m.x.length m.c] 45)).heap.size := by simp
      refine ⟨_, Lib.hid rfl, Lib.hid (((Below.refl _ _).alloc (Nat.le_refl _) _).alloc (by simp) _), by simp, Lib.hid ?_, Lib.hid ?_⟩
      · exact (Cells.newD _ #[Value.string m.name, .int .i64 m.stage, .slice m.A m.x.length m.c] _).alloc _
      · rw [z1]; exact Cells.newD _ #[Value.string b, .string s] _
    have H := Lib.hid (h.later hWb.out)
    have HH := Lib.hid (show RdL W W.heap.size A' 2 Spk.enc l from (hh.below hWb.out (Nat.le_refl _)).more hWb.out.size)
    clear h hh
    have u0 : (W).cell? ⟨w.heap.size, 0, none⟩ = some (.string m.name) := (hM.out).cell (i := 0) (by omega); have u1 : (W).cell? ⟨w.heap.size, 1, none⟩ = some (.int .i64 m.stage) := (hM.out).cell (i := 1) (by omega); have u2 : (W).cell? ⟨w.heap.size, 2, none⟩ = some (.slice m.A m.x.length m.c) := (hM.out).cell (i := 2) (by omega); have u3 : (W).cell? ⟨w.heap.size + 1, 0, none⟩ = some (.string b) := (hK.out).cell (i := 0) (by omega); have u4 : (W).cell? ⟨w.heap.size + 1, 1, none⟩ = some (.string s) := (hK.out).cell (i := 1) (by omega)
    go_enter Tryz.func22, Tryz.ntmps22
    go_wp2_with fail
    rw [hWe.out]
    clear hWe
    go_wp2_with (go_at_call 20; refine (hsaid.out W H.out HH.out).mono ?_; rintro e w1 ⟨rfl, hb1⟩; have HB1 := Lib.hid hb1; have hz1 := hb1.size; have HM1 := Lib.hid (hM.out.later hb1); have HK1 := Lib.hid (hK.out.later hb1); clear hb1 u0 u1 u2 u3 u4; have u0 : (w1).cell? ⟨w.heap.size, 0, none⟩ = some (.string m.name) := (HM1.out).cell (i := 0) (by omega); have u1 : (w1).cell? ⟨w.heap.size, 1, none⟩ = some (.int .i64 m.stage) := (HM1.out).cell (i := 1) (by omega); have u2 : (w1).cell? ⟨w.heap.size, 2, none⟩ = some (.slice m.A m.x.length m.c) := (HM1.out).cell (i := 2) (by omega); have u3 : (w1).cell? ⟨w.heap.size + 1, 0, none⟩ = some (.string b) := (HK1.out).cell (i := 0) (by omega); have u4 : (w1).cell? ⟨w.heap.size + 1, 1, none⟩ = some (.string s) := (HK1.out).cell (i := 1) (by omega))
    go_ret2
    exact TRowOutC.no hRs.out (hWb.out.trans (HB1.out.mono (by omega)))
  obtain ⟨t, first, h9⟩ := hex
  have hP := h9.1
  have hcP := hP.1
  have ht := hP.2.2.1
  have hg := hcP.geo
  have hfi := hP.2.2.2.1
  obtain ⟨f, rfl⟩ : ∃ f : Nat, first = (f : Int) := ⟨first.toNat, by have := hfi.1; omega⟩
  have hf1 : 1 ≤ f := by have := hfi.1; omega
  have hf2 : f ≤ 20 := by have := hfi.2; omega
  have hD := saidR_t h9
  have hst := hg.st
  obtain ⟨n, hn⟩ : ∃ n, Hid (m.stage.toNat = n) := ⟨_, Lib.hid rfl⟩
  rw [hn.out] at hg hst
  obtain ⟨P, hPe⟩ : ∃ P, Hid (t.size * m.x.length = P) := ⟨_, Lib.hid rfl⟩
  have hPb : P ≤ 60000 := by rw [← hPe.out]; exact Nat.le_trans (Nat.mul_le_mul ht.2.2 (Nat.le_trans hg.l40 (by omega : (40 : Nat) ≤ 1000))) (by omega)
  have hP1 : 1 ≤ P := by rw [← hPe.out]; exact Nat.mul_pos ht.2.1 hg.l0
  obtain ⟨TL, hTL⟩ : ∃ TL, Hid (rowsL9 n m.x b s t = TL) := ⟨_, Lib.hid rfl⟩
  have hTLl : Hid (TL.length = P) := Lib.hid (by rw [← hTL.out, ← hPe.out]; unfold rowsL9; rw [rowsTo_len])
  obtain ⟨R, hR⟩ : ∃ R, Hid (roundsS m.stage = R) := ⟨_, Lib.hid rfl⟩
  have hx40 := hg.l40
  have hDs : D = (t, (f : Int), true) := by rw [← hDD.out]; exact hD
  subst hDs
  simp only at hsaid
  have HTR : Hid (∀ W, MkOk m b s W → Calls Tryz.prog 74 #[.agg #[Value.string m.name, .int .i64 m.stage, .slice m.A m.x.length m.c], .agg #[Value.string b, .string s], .string t] W fun e w' => TRowOut (tRow n m.x b s t) W e w') := Lib.hid fun W hW => by
    have := touchRows_any m.name n m.x m.A m.c b s t W hW.rd hg.n3 hg.n8 (by omega) hg.l0 hg.ok (chgOk_of hcP.1.2.2) ht
    rw [← hst] at this; exact this
  by_cases hle8 : P ≤ 800
  rotate_left
  · have hRs := Lib.hid (rsR_n hD (by have := hPe.out; omega))
    have HTR2 : Hid (∀ W, MkOk m b s W → Calls Tryz.prog 74 #[.agg #[Value.string m.name, .int .i64 m.stage, .slice m.A m.x.length m.c], .agg #[Value.string b, .string s], .string t] W fun e w' => ∃ A2 c2, e = .returned (.tuple #[.slice A2 0 c2, .bool false]) ∧ Below W.heap.size W w') := Lib.hid fun W hW => by
      have := HTR.out W hW
      rw [show tRow n m.x b s t = ([], false) by unfold tRow; rw [if_neg (by rw [hPe.out]; exact hle8)]] at this
      exact this.mono fun e w' ⟨A, c, he, ho, hb⟩ => ⟨A, c, he, hb⟩
    clear h9 hP hcP ht hg hfi hD hst
    obtain ⟨W, hWe, hWb, hWs, hM, hK⟩ : ∃ W : World, Hid ((w.alloc (.cells #[Value.string m.name, .int .i64 m.stage, .slice m.A m.x.length m.c] 45)).alloc (.cells #[Value.string b, .string s] 47) = W) ∧ Hid (Below w.heap.size w W) ∧ w.heap.size + 2 ≤ W.heap.size ∧ Hid (Cells W w.heap.size 3 (fun i => (#[Value.string m.name, .int .i64 m.stage, .slice m.A m.x.length m.c] : Array Value).getD i undef)) ∧ Hid (Cells W (w.heap.size + 1) 2 (fun i => (#[Value.string b, .string s] : Array Value).getD i undef)) := by
      have z1 : w.heap.size + 1 = (w.alloc (.cells #[Value.string m.name, .int .i64 m.stage, .slice m.A m.x.length m.c] 45)).heap.size := by simp
      refine ⟨_, Lib.hid rfl, Lib.hid (((Below.refl _ _).alloc (Nat.le_refl _) _).alloc (by simp) _), by simp, Lib.hid ?_, Lib.hid ?_⟩
      · exact (Cells.newD _ #[Value.string m.name, .int .i64 m.stage, .slice m.A m.x.length m.c] _).alloc _
      · rw [z1]; exact Cells.newD _ #[Value.string b, .string s] _
    have H := Lib.hid (h.later hWb.out)
    have HH := Lib.hid (show RdL W W.heap.size A' 2 Spk.enc l from (hh.below hWb.out (Nat.le_refl _)).more hWb.out.size)
    clear h hh
    have u0 : (W).cell? ⟨w.heap.size, 0, none⟩ = some (.string m.name) := (hM.out).cell (i := 0) (by omega); have u1 : (W).cell? ⟨w.heap.size, 1, none⟩ = some (.int .i64 m.stage) := (hM.out).cell (i := 1) (by omega); have u2 : (W).cell? ⟨w.heap.size, 2, none⟩ = some (.slice m.A m.x.length m.c) := (hM.out).cell (i := 2) (by omega); have u3 : (W).cell? ⟨w.heap.size + 1, 0, none⟩ = some (.string b) := (hK.out).cell (i := 0) (by omega); have u4 : (W).cell? ⟨w.heap.size + 1, 1, none⟩ = some (.string s) := (hK.out).cell (i := 1) (by omega)
    go_enter Tryz.func22, Tryz.ntmps22
    go_wp2_with fail
    rw [hWe.out]
    clear hWe
    go_wp2_with (first
      | (go_at_call 20; refine (hsaid.out W H.out HH.out).mono ?_; rintro e w1 ⟨rfl, hb1⟩; have HB1 := Lib.hid hb1; have hz1 := hb1.size; have HM1 := Lib.hid (hM.out.later hb1); have HK1 := Lib.hid (hK.out.later hb1); clear hb1 u0 u1 u2 u3 u4; have u0 : (w1).cell? ⟨w.heap.size, 0, none⟩ = some (.string m.name) := (HM1.out).cell (i := 0) (by omega); have u1 : (w1).cell? ⟨w.heap.size, 1, none⟩ = some (.int .i64 m.stage) := (HM1.out).cell (i := 1) (by omega); have u2 : (w1).cell? ⟨w.heap.size, 2, none⟩ = some (.slice m.A m.x.length m.c) := (HM1.out).cell (i := 2) (by omega); have u3 : (w1).cell? ⟨w.heap.size + 1, 0, none⟩ = some (.string b) := (HK1.out).cell (i := 0) (by omega); have u4 : (w1).cell? ⟨w.heap.size + 1, 1, none⟩ = some (.string s) := (HK1.out).cell (i := 1) (by omega))
      | (go_at_call 74; refine (HTR2.out w1 (H.out.later HB1.out)).mono ?_; rintro e w2 ⟨A2, c2, rfl, hb2⟩; have HB2 := Lib.hid hb2; have hz2 := hb2.size; clear hb2 u0 u1 u2 u3 u4))
    go_ret2
    exact TRowOutC.no hRs.out ((hWb.out.trans (HB1.out.mono (by omega))).trans (HB2.out.mono (by omega)))
  have HTR3 : Hid (∀ W, MkOk m b s W → Calls Tryz.prog 74 #[.agg #[Value.string m.name, .int .i64 m.stage, .slice m.A m.x.length m.c], .agg #[Value.string b, .string s], .string t] W fun e w' => ∃ A2 c2, e = .returned (.tuple #[.slice A2 TL.length c2, .bool true]) ∧ OwnL w' W.heap.size w'.heap.size A2 1 encString TL ∧ Below W.heap.size W w') := Lib.hid fun W hW => by
    have := HTR.out W hW
    rw [show tRow n m.x b s t = (TL, true) by unfold tRow; rw [if_pos (by rw [hPe.out]; exact hle8), hTL.out]] at this
    exact this
  have hTLp : 1 ≤ TL.length := by have := hTLl.out; omega
  have hTL8 : TL.length ≤ 800 := by have := hTLl.out; omega
  have w1' : IntKind.i64.wrap ((TL.length : Int) + (f : Int)) = (TL.length : Int) + (f : Int) := IntWalk.i64_in _ (by omega)
  have w2' : IntKind.i64.wrap ((TL.length : Int) + (f : Int) + 2) = (TL.length : Int) + (f : Int) + 2 := IntWalk.i64_in _ (by omega)
  by_cases hle : TL.length + f + 2 ≤ 800
  rotate_left
  · have hRs := Lib.hid (rsR_n hD (by have := hPe.out; have := hTLl.out; omega))
    have hgt : (800 : Int) < (TL.length : Int) + (f : Int) + 2 := by omega
    clear h9 hP hcP ht hg hfi hD hst
    obtain ⟨W, hWe, hWb, hWs, hM, hK⟩ : ∃ W : World, Hid ((w.alloc (.cells #[Value.string m.name, .int .i64 m.stage, .slice m.A m.x.length m.c] 45)).alloc (.cells #[Value.string b, .string s] 47) = W) ∧ Hid (Below w.heap.size w W) ∧ w.heap.size + 2 ≤ W.heap.size ∧ Hid (Cells W w.heap.size 3 (fun i => (#[Value.string m.name, .int .i64 m.stage, .slice m.A m.x.length m.c] : Array Value).getD i undef)) ∧ Hid (Cells W (w.heap.size + 1) 2 (fun i => (#[Value.string b, .string s] : Array Value).getD i undef)) := by
      have z1 : w.heap.size + 1 = (w.alloc (.cells #[Value.string m.name, .int .i64 m.stage, .slice m.A m.x.length m.c] 45)).heap.size := by simp
      refine ⟨_, Lib.hid rfl, Lib.hid (((Below.refl _ _).alloc (Nat.le_refl _) _).alloc (by simp) _), by simp, Lib.hid ?_, Lib.hid ?_⟩
      · exact (Cells.newD _ #[Value.string m.name, .int .i64 m.stage, .slice m.A m.x.length m.c] _).alloc _
      · rw [z1]; exact Cells.newD _ #[Value.string b, .string s] _
    have H := Lib.hid (h.later hWb.out)
    have HH := Lib.hid (show RdL W W.heap.size A' 2 Spk.enc l from (hh.below hWb.out (Nat.le_refl _)).more hWb.out.size)
    clear h hh
    have u0 : (W).cell? ⟨w.heap.size, 0, none⟩ = some (.string m.name) := (hM.out).cell (i := 0) (by omega); have u1 : (W).cell? ⟨w.heap.size, 1, none⟩ = some (.int .i64 m.stage) := (hM.out).cell (i := 1) (by omega); have u2 : (W).cell? ⟨w.heap.size, 2, none⟩ = some (.slice m.A m.x.length m.c) := (hM.out).cell (i := 2) (by omega); have u3 : (W).cell? ⟨w.heap.size + 1, 0, none⟩ = some (.string b) := (hK.out).cell (i := 0) (by omega); have u4 : (W).cell? ⟨w.heap.size + 1, 1, none⟩ = some (.string s) := (hK.out).cell (i := 1) (by omega)
    go_enter Tryz.func22, Tryz.ntmps22
    go_wp2_with fail
    rw [hWe.out]
    clear hWe
    go_wp2_with (first
      | (go_at_call 20; refine (hsaid.out W H.out HH.out).mono ?_; rintro e w1 ⟨rfl, hb1⟩; have HB1 := Lib.hid hb1; have hz1 := hb1.size; have HM1 := Lib.hid (hM.out.later hb1); have HK1 := Lib.hid (hK.out.later hb1); clear hb1 u0 u1 u2 u3 u4; have u0 : (w1).cell? ⟨w.heap.size, 0, none⟩ = some (.string m.name) := (HM1.out).cell (i := 0) (by omega); have u1 : (w1).cell? ⟨w.heap.size, 1, none⟩ = some (.int .i64 m.stage) := (HM1.out).cell (i := 1) (by omega); have u2 : (w1).cell? ⟨w.heap.size, 2, none⟩ = some (.slice m.A m.x.length m.c) := (HM1.out).cell (i := 2) (by omega); have u3 : (w1).cell? ⟨w.heap.size + 1, 0, none⟩ = some (.string b) := (HK1.out).cell (i := 0) (by omega); have u4 : (w1).cell? ⟨w.heap.size + 1, 1, none⟩ = some (.string s) := (HK1.out).cell (i := 1) (by omega))
      | (go_at_call 74; refine (HTR3.out w1 (H.out.later HB1.out)).mono ?_; rintro e w2 ⟨A2, c2, rfl, ho2, hb2⟩; have HB2 := Lib.hid hb2; have hz2 := hb2.size; clear ho2 hb2 u0 u1 u2 u3 u4))
    go_ret2
    exact TRowOutC.no hRs.out ((hWb.out.trans (HB1.out.mono (by omega))).trans (HB2.out.mono (by omega)))
  have hRs : Hid (rsR m b s l = (List.replicate f R ++ TL ++ [R, R], true)) := Lib.hid (by
    have := rsR_y hD (by have := hPe.out; have := hTLl.out; omega)
    rw [hn.out, hR.out, hTL.out] at this; exact this)
  have hngt : ¬ (800 : Int) < (TL.length : Int) + (f : Int) + 2 := by omega
  have HRn : Hid (∀ W, Calls Tryz.prog 75 #[.int .i64 m.stage] W fun e w' => e = .returned (.string R) ∧ W = w') := Lib.hid fun W => by
    have := rounds_any m.stage W (by have := hg.n3; omega) (by have := hg.n8; omega)
    rw [hR.out] at this; exact this
  obtain ⟨RP, hRP⟩ : ∃ RP, Hid (List.replicate f R = RP) := ⟨_, Lib.hid rfl⟩
  have hRPl : Hid (RP.length = f) := Lib.hid (by rw [← hRP.out]; simp)
  have HRep : Hid (∀ (W : World) (g c : Nat), W.cell? ⟨g, 0, none⟩ = some (.string R) → g < W.heap.size → Calls Tryz.prog 77 #[.slice (some ⟨g, 0, none⟩) 1 c, .int .i64 (f : Int)] W fun e w' => ∃ A, e = .returned (.slice A f f) ∧ OwnL w' W.heap.size w'.heap.size A 1 encString RP ∧ Below W.heap.size W w') := Lib.hid fun W g c h1 h2 => by
    have := repeat_any R f hf1 (by omega) g c W h1 h2
    rw [hRP.out] at this; exact this
  rw [hRP.out] at hRs
  clear h9 hP hcP ht hg hfi hD hst
  obtain ⟨W, hWe, hWb, hWs, hM, hK⟩ : ∃ W : World, Hid ((w.alloc (.cells #[Value.string m.name, .int .i64 m.stage, .slice m.A m.x.length m.c] 45)).alloc (.cells #[Value.string b, .string s] 47) = W) ∧ Hid (Below w.heap.size w W) ∧ w.heap.size + 2 ≤ W.heap.size ∧ Hid (Cells W w.heap.size 3 (fun i => (#[Value.string m.name, .int .i64 m.stage, .slice m.A m.x.length m.c] : Array Value).getD i undef)) ∧ Hid (Cells W (w.heap.size + 1) 2 (fun i => (#[Value.string b, .string s] : Array Value).getD i undef)) := by
    have z1 : w.heap.size + 1 = (w.alloc (.cells #[Value.string m.name, .int .i64 m.stage, .slice m.A m.x.length m.c] 45)).heap.size := by simp
    refine ⟨_, Lib.hid rfl, Lib.hid (((Below.refl _ _).alloc (Nat.le_refl _) _).alloc (by simp) _), by simp, Lib.hid ?_, Lib.hid ?_⟩
    · exact (Cells.newD _ #[Value.string m.name, .int .i64 m.stage, .slice m.A m.x.length m.c] _).alloc _
    · rw [z1]; exact Cells.newD _ #[Value.string b, .string s] _
  have H := Lib.hid (h.later hWb.out)
  have HH := Lib.hid (show RdL W W.heap.size A' 2 Spk.enc l from (hh.below hWb.out (Nat.le_refl _)).more hWb.out.size)
  clear h hh
  have u0 : (W).cell? ⟨w.heap.size, 0, none⟩ = some (.string m.name) := (hM.out).cell (i := 0) (by omega); have u1 : (W).cell? ⟨w.heap.size, 1, none⟩ = some (.int .i64 m.stage) := (hM.out).cell (i := 1) (by omega); have u2 : (W).cell? ⟨w.heap.size, 2, none⟩ = some (.slice m.A m.x.length m.c) := (hM.out).cell (i := 2) (by omega); have u3 : (W).cell? ⟨w.heap.size + 1, 0, none⟩ = some (.string b) := (hK.out).cell (i := 0) (by omega); have u4 : (W).cell? ⟨w.heap.size + 1, 1, none⟩ = some (.string s) := (hK.out).cell (i := 1) (by omega)
  go_enter Tryz.func22, Tryz.ntmps22
  go_wp2_with fail
  rw [hWe.out]
  clear hWe
  go_upto_region 8 with (first
    | (go_at_call 20; refine (hsaid.out W H.out HH.out).mono ?_; rintro e w1 ⟨rfl, hb1⟩; have HB1 := Lib.hid hb1; have hz1 := hb1.size; have HM1 := Lib.hid (hM.out.later hb1); have HK1 := Lib.hid (hK.out.later hb1); clear hb1 u0 u1 u2 u3 u4; have u0 : (w1).cell? ⟨w.heap.size, 0, none⟩ = some (.string m.name) := (HM1.out).cell (i := 0) (by omega); have u1 : (w1).cell? ⟨w.heap.size, 1, none⟩ = some (.int .i64 m.stage) := (HM1.out).cell (i := 1) (by omega); have u2 : (w1).cell? ⟨w.heap.size, 2, none⟩ = some (.slice m.A m.x.length m.c) := (HM1.out).cell (i := 2) (by omega); have u3 : (w1).cell? ⟨w.heap.size + 1, 0, none⟩ = some (.string b) := (HK1.out).cell (i := 0) (by omega); have u4 : (w1).cell? ⟨w.heap.size + 1, 1, none⟩ = some (.string s) := (HK1.out).cell (i := 1) (by omega))
    | (go_at_call 75; refine (HRn.out _).mono ?_; rintro e w3 ⟨rfl, rfl⟩)
    | (go_at_call 74; refine (HTR3.out w1 (H.out.later HB1.out)).mono ?_; rintro e w2 ⟨A2, c2, rfl, ho2, hb2⟩; have HO2 := Lib.hid ho2; have HB2 := Lib.hid hb2; have hz2 := hb2.size; have HM2 := Lib.hid (HM1.out.later hb2); have HK2 := Lib.hid (HK1.out.later hb2); clear ho2 hb2 u0 u1 u2 u3 u4; have u0 : (w2).cell? ⟨w.heap.size, 0, none⟩ = some (.string m.name) := (HM2.out).cell (i := 0) (by omega); have u1 : (w2).cell? ⟨w.heap.size, 1, none⟩ = some (.int .i64 m.stage) := (HM2.out).cell (i := 1) (by omega); have u2 : (w2).cell? ⟨w.heap.size, 2, none⟩ = some (.slice m.A m.x.length m.c) := (HM2.out).cell (i := 2) (by omega); have u3 : (w2).cell? ⟨w.heap.size + 1, 0, none⟩ = some (.string b) := (HK2.out).cell (i := 0) (by omega); have u4 : (w2).cell? ⟨w.heap.size + 1, 1, none⟩ = some (.string s) := (HK2.out).cell (i := 1) (by omega)))
  clear u0 u1 u2 u3 u4
  go_wp2_with (first
    | (go_at_call 77; refine (HRep.out (w2.alloc (.cells #[.string R] 9)) w2.heap.size 1 (by rw [World.cell?_alloc_new]; rfl) (by simp)).mono ?_; rintro e w5 ⟨A5, rfl, ho5, hb5⟩; have HO5 := Lib.hid ho5; have HB5 : Hid (Below w2.heap.size w2 w5) := Lib.hid (((Below.refl _ _).alloc (Nat.le_refl _) _).trans (hb5.mono (by simp))); have hz5 := HB5.out.size; have HR2 : Hid (RdL w5 w5.heap.size A2 1 encString TL) := Lib.hid ((((HO2.out.rd encString_len).below HB5.out (Nat.le_refl _))).more hz5); clear ho5 hb5)
    | (go_at_call 76; refine (concat3C_any RP TL [R, R] A5 A2 (some ⟨w5.heap.size, 0, none⟩) f c2 2 (w5.heap.size + 1) 3 ((w5.alloc (.cells #[.string R, .string R] 9)).alloc (.cells #[.slice A5 f f, .slice A2 TL.length c2, .slice (some ⟨w5.heap.size, 0, none⟩) 2 2] 25)) (by simp) (by rw [show w5.heap.size + 1 = (w5.alloc (.cells #[.string R, .string R] 9)).heap.size by simp, World.cell?_alloc_new, hRPl.out]; rfl) (by rw [show w5.heap.size + 1 = (w5.alloc (.cells #[.string R, .string R] 9)).heap.size by simp, World.cell?_alloc_new]; rfl) (by rw [show w5.heap.size + 1 = (w5.alloc (.cells #[.string R, .string R] 9)).heap.size by simp, World.cell?_alloc_new]; rfl) ((((HO5.out.rd encString_len).below (((Below.refl _ _).alloc (Nat.le_refl _) _).alloc (by simp) _) (Nat.le_refl _))).more (by simp; omega)) ((HR2.out.below (((Below.refl _ _).alloc (Nat.le_refl _) _).alloc (by simp) _) (Nat.le_refl _)).more (by simp; omega)) ((rd_two.below ((Below.refl _ _).alloc (Nat.le_refl _) _) (Nat.le_refl _)).more (by simp)) (by rw [hRPl.out]; exact hf1) hTLp (by simp) (by rw [hRPl.out]; simp; omega)).mono ?_; rintro e w7 ⟨A7, c7, rfl, hc7, ho7, hb7⟩; have HC7 := Lib.hid hc7; clear hc7; have HO7 := Lib.hid ho7; have HB7 : Hid (Below w5.heap.size w5 w7) := Lib.hid ((((Below.refl _ _).alloc (Nat.le_refl _) _).alloc (by simp) _).trans (hb7.mono (by simp; omega))); clear ho7 hb7))
  go_ret2
  exact TRowOutC.yesN hRs.out (show RP.length + (TL.length + 2) = _ by simp [Nat.add_assoc]) HC7.out (HO7.out.mono (by simp; omega) (Nat.le_refl _)) ((((hWb.out.trans (HB1.out.mono (by omega))).trans (HB2.out.mono (by omega))).trans (HB5.out.mono (by omega))).trans (HB7.out.mono (by omega)))
set_option maxHeartbeats 3200000 in
theorem sRowsSaid_any (m : Mth) (b s : ByteArray) (l : List Spk) (A' : Option Addr) (c' : Nat) (w : World) (h : MkOk m b s w) (hh : RdL w w.heap.size A' 2 Spk.enc l) (hl : l.length ≤ 1048576) :
    Calls Tryz.prog 23 #[.agg #[Value.string m.name, .int .i64 m.stage, .slice m.A m.x.length m.c], .agg #[Value.string b, .string s], .slice A' l.length c'] w fun e w' => TRowOut (rsR m b s l) w e w' := by
  have Hone : Hid (∀ x : ByteArray, ∀ u ∈ [Value.string x], u.oneCell' = true) := Lib.hid (by intro x u hu; simp at hu; subst hu; rfl)
  have Hone2 : Hid (∀ x : ByteArray, ∀ u ∈ [Value.string x, .string x], u.oneCell' = true) := Lib.hid (by intro x u hu; simp at hu; subst hu; rfl)
  obtain ⟨D, hDD⟩ : ∃ D, Hid (saidR m b s l = D) := ⟨_, Lib.hid rfl⟩
  have hsaid : Hid (∀ W, MkOk m b s W → RdL W W.heap.size A' 2 Spk.enc l → Calls Tryz.prog 21 #[.agg #[Value.string m.name, .int .i64 m.stage, .slice m.A m.x.length m.c], .agg #[Value.string b, .string s], .slice A' l.length c'] W fun e w' => e = .returned (.tuple #[.string D.1, .int .i64 D.2.1, .bool D.2.2]) ∧ Below W.heap.size W w') := Lib.hid fun W h1 h2 => by
    have := sTouchSaid_any m b s l A' c' W h1 h2 hl
    rw [hDD.out] at this; exact this
  by_cases hex : ∃ t first, saidP m b s l t first
  rotate_left
  · have hD := saidR_f (m := m) (b := b) (s := s) (l := l) (fun t f hx => hex ⟨t, f, hx⟩)
    have hRs := Lib.hid (rsR_no hD)
    rw [hDD.out] at hD
    subst hD
    simp only at hsaid
    clear hex
    obtain ⟨W, hWe, hWb, hWs, hM, hK⟩ : ∃ W : World, Hid ((w.alloc (.cells #[Value.string m.name, .int .i64 m.stage, .slice m.A m.x.length m.c] 45)).alloc (.cells #[Value.string b, .string s] 47) = W) ∧ Hid (Below w.heap.size w W) ∧ w.heap.size + 2 ≤ W.heap.size ∧ Hid (Cells W w.heap.size 3 (fun i => (#[Value.string m.name, .int .i64 m.stage, .slice m.A m.x.length m.c] : Array Value).getD i undef)) ∧ Hid (Cells W (w.heap.size + 1) 2 (fun i => (#[Value.string b, .string s] : Array Value).getD i undef)) := by
      have z1 : w.heap.size + 1 = (w.alloc (.cells #[Value.string m.name, .int .i64 m.stage, .slice m.A m.x.length m.c] 45)).heap.size := by simp
      refine ⟨_, Lib.hid rfl, Lib.hid (((Below.refl _ _).alloc (Nat.le_refl _) _).alloc (by simp) _), by simp, Lib.hid ?_, Lib.hid ?_⟩
      · exact (Cells.newD _ #[Value.string m.name, .int .i64 m.stage, .slice m.A m.x.length m.c] _).alloc _
      · rw [z1]; exact Cells.newD _ #[Value.string b, .string s] _
    have H := Lib.hid (h.later hWb.out)
    have HH := Lib.hid (show RdL W W.heap.size A' 2 Spk.enc l from (hh.below hWb.out (Nat.le_refl _)).more hWb.out.size)
    clear h hh
    have u0 : (W).cell? ⟨w.heap.size, 0, none⟩ = some (.string m.name) := (hM.out).cell (i := 0) (by omega); have u1 : (W).cell? ⟨w.heap.size, 1, none⟩ = some (.int .i64 m.stage) := (hM.out).cell (i := 1) (by omega); have u2 : (W).cell? ⟨w.heap.size, 2, none⟩ = some (.slice m.A m.x.length m.c) := (hM.out).cell (i := 2) (by omega); have u3 : (W).cell? ⟨w.heap.size + 1, 0, none⟩ = some (.string b) := (hK.out).cell (i := 0) (by omega); have u4 : (W).cell? ⟨w.heap.size + 1, 1, none⟩ = some (.string s) := (hK.out).cell (i := 1) (by omega)
    go_enter Tryz.func23, Tryz.ntmps23
    go_wp2_with fail
    rw [hWe.out]
    clear hWe
    go_wp2_with (go_at_call 21; refine (hsaid.out W H.out HH.out).mono ?_; rintro e w1 ⟨rfl, hb1⟩; have HB1 := Lib.hid hb1; have hz1 := hb1.size; have HM1 := Lib.hid (hM.out.later hb1); have HK1 := Lib.hid (hK.out.later hb1); clear hb1 u0 u1 u2 u3 u4; have u0 : (w1).cell? ⟨w.heap.size, 0, none⟩ = some (.string m.name) := (HM1.out).cell (i := 0) (by omega); have u1 : (w1).cell? ⟨w.heap.size, 1, none⟩ = some (.int .i64 m.stage) := (HM1.out).cell (i := 1) (by omega); have u2 : (w1).cell? ⟨w.heap.size, 2, none⟩ = some (.slice m.A m.x.length m.c) := (HM1.out).cell (i := 2) (by omega); have u3 : (w1).cell? ⟨w.heap.size + 1, 0, none⟩ = some (.string b) := (HK1.out).cell (i := 0) (by omega); have u4 : (w1).cell? ⟨w.heap.size + 1, 1, none⟩ = some (.string s) := (HK1.out).cell (i := 1) (by omega))
    go_ret2
    exact TRowOut.no hRs.out (hWb.out.trans (HB1.out.mono (by omega)))
  obtain ⟨t, first, h9⟩ := hex
  have hP := h9.1
  have hcP := hP.1
  have ht := hP.2.2.1
  have hg := hcP.geo
  have hfi := hP.2.2.2.1
  obtain ⟨f, rfl⟩ : ∃ f : Nat, first = (f : Int) := ⟨first.toNat, by have := hfi.1; omega⟩
  have hf1 : 1 ≤ f := by have := hfi.1; omega
  have hf2 : f ≤ 20 := by have := hfi.2; omega
  have hD := saidR_t h9
  have hst := hg.st
  obtain ⟨n, hn⟩ : ∃ n, Hid (m.stage.toNat = n) := ⟨_, Lib.hid rfl⟩
  rw [hn.out] at hg hst
  obtain ⟨P, hPe⟩ : ∃ P, Hid (t.size * m.x.length = P) := ⟨_, Lib.hid rfl⟩
  have hPb : P ≤ 60000 := by rw [← hPe.out]; exact Nat.le_trans (Nat.mul_le_mul ht.2.2 (Nat.le_trans hg.l40 (by omega : (40 : Nat) ≤ 1000))) (by omega)
  have hP1 : 1 ≤ P := by rw [← hPe.out]; exact Nat.mul_pos ht.2.1 hg.l0
  obtain ⟨TL, hTL⟩ : ∃ TL, Hid (rowsL9 n m.x b s t = TL) := ⟨_, Lib.hid rfl⟩
  have hTLl : Hid (TL.length = P) := Lib.hid (by rw [← hTL.out, ← hPe.out]; unfold rowsL9; rw [rowsTo_len])
  obtain ⟨R, hR⟩ : ∃ R, Hid (roundsS m.stage = R) := ⟨_, Lib.hid rfl⟩
  have hDs : D = (t, (f : Int), true) := by rw [← hDD.out]; exact hD
  subst hDs
  simp only at hsaid
  have hx40 := hg.l40
  have ht60 := ht.2.2
  have wmul : IntKind.i64.wrap ((t.size : Int) * (m.x.length : Int)) = (P : Int) := by
    have e : (t.size : Int) * (m.x.length : Int) = (P : Int) := by rw [← hPe.out]; push_cast; rfl
    rw [e]; exact IntWalk.i64_in _ (by omega)
  have w1' : IntKind.i64.wrap ((f : Int) + (P : Int)) = (f : Int) + (P : Int) := IntWalk.i64_in _ (by omega)
  have w2' : IntKind.i64.wrap ((f : Int) + (P : Int) + 2) = (f : Int) + (P : Int) + 2 := IntWalk.i64_in _ (by omega)
  by_cases hle : f + P + 2 ≤ 800
  rotate_left
  · have hRs := Lib.hid (rsR_n hD (by have := hPe.out; omega))
    have hgt : (800 : Int) < (f : Int) + (P : Int) + 2 := by omega
    clear h9 hP hcP ht hg hfi hD hst
    obtain ⟨W, hWe, hWb, hWs, hM, hK⟩ : ∃ W : World, Hid ((w.alloc (.cells #[Value.string m.name, .int .i64 m.stage, .slice m.A m.x.length m.c] 45)).alloc (.cells #[Value.string b, .string s] 47) = W) ∧ Hid (Below w.heap.size w W) ∧ w.heap.size + 2 ≤ W.heap.size ∧ Hid (Cells W w.heap.size 3 (fun i => (#[Value.string m.name, .int .i64 m.stage, .slice m.A m.x.length m.c] : Array Value).getD i undef)) ∧ Hid (Cells W (w.heap.size + 1) 2 (fun i => (#[Value.string b, .string s] : Array Value).getD i undef)) := by
      have z1 : w.heap.size + 1 = (w.alloc (.cells #[Value.string m.name, .int .i64 m.stage, .slice m.A m.x.length m.c] 45)).heap.size := by simp
      refine ⟨_, Lib.hid rfl, Lib.hid (((Below.refl _ _).alloc (Nat.le_refl _) _).alloc (by simp) _), by simp, Lib.hid ?_, Lib.hid ?_⟩
      · exact (Cells.newD _ #[Value.string m.name, .int .i64 m.stage, .slice m.A m.x.length m.c] _).alloc _
      · rw [z1]; exact Cells.newD _ #[Value.string b, .string s] _
    have H := Lib.hid (h.later hWb.out)
    have HH := Lib.hid (show RdL W W.heap.size A' 2 Spk.enc l from (hh.below hWb.out (Nat.le_refl _)).more hWb.out.size)
    clear h hh
    have u0 : (W).cell? ⟨w.heap.size, 0, none⟩ = some (.string m.name) := (hM.out).cell (i := 0) (by omega); have u1 : (W).cell? ⟨w.heap.size, 1, none⟩ = some (.int .i64 m.stage) := (hM.out).cell (i := 1) (by omega); have u2 : (W).cell? ⟨w.heap.size, 2, none⟩ = some (.slice m.A m.x.length m.c) := (hM.out).cell (i := 2) (by omega); have u3 : (W).cell? ⟨w.heap.size + 1, 0, none⟩ = some (.string b) := (hK.out).cell (i := 0) (by omega); have u4 : (W).cell? ⟨w.heap.size + 1, 1, none⟩ = some (.string s) := (hK.out).cell (i := 1) (by omega)
    go_enter Tryz.func23, Tryz.ntmps23
    go_wp2_with fail
    rw [hWe.out]
    clear hWe
    go_wp2_with (go_at_call 21; refine (hsaid.out W H.out HH.out).mono ?_; rintro e w1 ⟨rfl, hb1⟩; have HB1 := Lib.hid hb1; have hz1 := hb1.size; have HM1 := Lib.hid (hM.out.later hb1); have HK1 := Lib.hid (hK.out.later hb1); clear hb1 u0 u1 u2 u3 u4; have u0 : (w1).cell? ⟨w.heap.size, 0, none⟩ = some (.string m.name) := (HM1.out).cell (i := 0) (by omega); have u1 : (w1).cell? ⟨w.heap.size, 1, none⟩ = some (.int .i64 m.stage) := (HM1.out).cell (i := 1) (by omega); have u2 : (w1).cell? ⟨w.heap.size, 2, none⟩ = some (.slice m.A m.x.length m.c) := (HM1.out).cell (i := 2) (by omega); have u3 : (w1).cell? ⟨w.heap.size + 1, 0, none⟩ = some (.string b) := (HK1.out).cell (i := 0) (by omega); have u4 : (w1).cell? ⟨w.heap.size + 1, 1, none⟩ = some (.string s) := (HK1.out).cell (i := 1) (by omega))
    go_ret2
    exact TRowOut.no hRs.out (hWb.out.trans (HB1.out.mono (by omega)))
  have hRs : Hid (rsR m b s l = (List.replicate f R ++ TL ++ [R, R], true)) := Lib.hid (by
    have := rsR_y hD (by have := hPe.out; omega)
    rw [hn.out, hR.out, hTL.out] at this; exact this)
  have hngt : ¬ (800 : Int) < (f : Int) + (P : Int) + 2 := by omega
  have hTLp : 1 ≤ TL.length := by have := hTLl.out; omega
  have hTL8 : TL.length ≤ 800 := by have := hTLl.out; omega
  have HRn : Hid (∀ W, Calls Tryz.prog 78 #[.int .i64 m.stage] W fun e w' => e = .returned (.string R) ∧ W = w') := Lib.hid fun W => by
    have := l1Rounds_any m.stage W (by have := hg.n3; omega) (by have := hg.n8; omega)
    rw [hR.out] at this; exact this
  have HL9 : Hid (∀ W, MkOk m b s W → Calls Tryz.prog 79 #[.agg #[Value.string m.name, .int .i64 m.stage, .slice m.A m.x.length m.c], .agg #[Value.string b, .string s], .string t] W fun e w' => ∃ A2 c2, e = .returned (.slice A2 TL.length c2) ∧ OwnL w' W.heap.size w'.heap.size A2 1 encString TL ∧ Below W.heap.size W w') := Lib.hid fun W hW => by
    have := l9Rows_any m.name n m.x m.A m.c b s t W hW.rd hg.n3 hg.n8 (by omega) hg.l0 hW.cp hg.xs hg.bs hg.ss (by omega) ht.2.1
    rw [← hst, hTL.out] at this
    exact this.mono fun e w' ⟨A2, c2, he, _, ho, hb⟩ => ⟨A2, c2, he, ho, hb⟩
  clear h9 hP hcP ht hg hfi hD hst
  obtain ⟨W, hWe, hWb, hWs, hM, hK⟩ : ∃ W : World, Hid ((w.alloc (.cells #[Value.string m.name, .int .i64 m.stage, .slice m.A m.x.length m.c] 45)).alloc (.cells #[Value.string b, .string s] 47) = W) ∧ Hid (Below w.heap.size w W) ∧ w.heap.size + 2 ≤ W.heap.size ∧ Hid (Cells W w.heap.size 3 (fun i => (#[Value.string m.name, .int .i64 m.stage, .slice m.A m.x.length m.c] : Array Value).getD i undef)) ∧ Hid (Cells W (w.heap.size + 1) 2 (fun i => (#[Value.string b, .string s] : Array Value).getD i undef)) := by
    have z1 : w.heap.size + 1 = (w.alloc (.cells #[Value.string m.name, .int .i64 m.stage, .slice m.A m.x.length m.c] 45)).heap.size := by simp
    refine ⟨_, Lib.hid rfl, Lib.hid (((Below.refl _ _).alloc (Nat.le_refl _) _).alloc (by simp) _), by simp, Lib.hid ?_, Lib.hid ?_⟩
    · exact (Cells.newD _ #[Value.string m.name, .int .i64 m.stage, .slice m.A m.x.length m.c] _).alloc _
    · rw [z1]; exact Cells.newD _ #[Value.string b, .string s] _
  have H := Lib.hid (h.later hWb.out)
  have HH := Lib.hid (show RdL W W.heap.size A' 2 Spk.enc l from (hh.below hWb.out (Nat.le_refl _)).more hWb.out.size)
  clear h hh
  have u0 : (W).cell? ⟨w.heap.size, 0, none⟩ = some (.string m.name) := (hM.out).cell (i := 0) (by omega); have u1 : (W).cell? ⟨w.heap.size, 1, none⟩ = some (.int .i64 m.stage) := (hM.out).cell (i := 1) (by omega); have u2 : (W).cell? ⟨w.heap.size, 2, none⟩ = some (.slice m.A m.x.length m.c) := (hM.out).cell (i := 2) (by omega); have u3 : (W).cell? ⟨w.heap.size + 1, 0, none⟩ = some (.string b) := (hK.out).cell (i := 0) (by omega); have u4 : (W).cell? ⟨w.heap.size + 1, 1, none⟩ = some (.string s) := (hK.out).cell (i := 1) (by omega)
  go_enter Tryz.func23, Tryz.ntmps23
  go_wp2_with fail
  rw [hWe.out]
  clear hWe
  go_upto_region 6 with (first
    | (go_at_call 21; refine (hsaid.out W H.out HH.out).mono ?_; rintro e w1 ⟨rfl, hb1⟩; have HB1 := Lib.hid hb1; have hz1 := hb1.size; have HM1 := Lib.hid (hM.out.later hb1); have HK1 := Lib.hid (hK.out.later hb1); clear hb1 u0 u1 u2 u3 u4; have u0 : (w1).cell? ⟨w.heap.size, 0, none⟩ = some (.string m.name) := (HM1.out).cell (i := 0) (by omega); have u1 : (w1).cell? ⟨w.heap.size, 1, none⟩ = some (.int .i64 m.stage) := (HM1.out).cell (i := 1) (by omega); have u2 : (w1).cell? ⟨w.heap.size, 2, none⟩ = some (.slice m.A m.x.length m.c) := (HM1.out).cell (i := 2) (by omega); have u3 : (w1).cell? ⟨w.heap.size + 1, 0, none⟩ = some (.string b) := (HK1.out).cell (i := 0) (by omega); have u4 : (w1).cell? ⟨w.heap.size + 1, 1, none⟩ = some (.string s) := (HK1.out).cell (i := 1) (by omega))
    | (go_at_call 78; refine (HRn.out _).mono ?_; rintro e w3 ⟨rfl, rfl⟩))
  clear u0 u1 u2 u3 u4
  obtain ⟨g0, hg0⟩ : ∃ g0, Hid (w1.heap.size = g0) := ⟨_, Lib.hid rfl⟩
  have hg0e := hg0.out
  go_loopw [9, 12] (fun i v wr => ∃ j : Nat, j ≤ f ∧ i = .int .i64 (j : Int) ∧ Grow wr g0 9 1 encString v (List.replicate (f - j) R) ∧ Below w1.heap.size w1 wr) (fun i _ _ => (intOf i).toNat)
  case atStart => exact ⟨f, Nat.le_refl _, rfl, by rw [Nat.sub_self]; exact Grow.nil, Below.refl _ _⟩
  case round =>
    obtain ⟨j, hj, rfl, hgr, hbl⟩ := hrel
    have HG := Lib.hid hgr
    have HB := Lib.hid hbl
    have hzr := hbl.size
    clear hgr hbl
    by_cases hlt : 0 < j
    · have hS : Hid (List.replicate (f - (j - 1)) R = List.replicate (f - j) R ++ [R]) := Lib.hid (by rw [show f - (j - 1) = (f - j) + 1 by omega]; exact List.replicate_succ')
      obtain ⟨Y, hY⟩ : ∃ Y, Hid (List.replicate (f - j) R = Y) := ⟨_, Lib.hid rfl⟩
      have hYl : Y.length ≤ 20 := by rw [← hY.out]; simp; omega
      rw [hY.out] at HG hS
      go_wp2_with (at_builtin; refine wpList_push rfl (.tmp 42) (.tmp 44) 25 rfl g0 9 _ 1 16 encString rfl String_info rfl (by omega) _ Y [R] 1 rfl rfl (by simp) HG.out rfl encString_len (Hone.out _) (by simp only [List.length_singleton]; omega) (by omega) (by omega) ?_; intro v5 w5 g5 b5 gb5; have HG5 := Lib.hid g5; have HB5 := Lib.hid b5; clear g5 b5 gb5)
      go_roundw
      case rel => exact ⟨j - 1, by omega, by go_num, by rw [hS.out]; exact HG5.out, HB.out.trans (HB5.out.mono (by omega))⟩
      case measure => simp [intOf]; omega
    · obtain rfl : j = 0 := by omega
      obtain ⟨RP, hRP⟩ : ∃ RP, Hid (List.replicate f R = RP) := ⟨_, Lib.hid rfl⟩
      have hRPl : RP.length = f := by rw [← hRP.out]; simp
      have HRPl := Lib.hid hRPl
      have hRP20 : RP.length ≤ 20 := by omega
      rw [Nat.sub_zero, hRP.out] at HG
      rw [hRP.out] at hRs
      have HMr := HM1.out.later HB.out
      have HKr := HK1.out.later HB.out
      have HBW := Lib.hid (HB1.out.trans (HB.out.mono hz1))
      have u0 : (wr).cell? ⟨w.heap.size, 0, none⟩ = some (.string m.name) := (HMr).cell (i := 0) (by omega); have u1 : (wr).cell? ⟨w.heap.size, 1, none⟩ = some (.int .i64 m.stage) := (HMr).cell (i := 1) (by omega); have u2 : (wr).cell? ⟨w.heap.size, 2, none⟩ = some (.slice m.A m.x.length m.c) := (HMr).cell (i := 2) (by omega); have u3 : (wr).cell? ⟨w.heap.size + 1, 0, none⟩ = some (.string b) := (HKr).cell (i := 0) (by omega); have u4 : (wr).cell? ⟨w.heap.size + 1, 1, none⟩ = some (.string s) := (HKr).cell (i := 1) (by omega)
      clear HMr HKr hRPl
      go_wp2_with (first
        | (go_at_call 79; refine (HL9.out wr (H.out.later HBW.out)).mono ?_; rintro e w4 ⟨A4, c4, rfl, ho4, hb4⟩; have HO4 := Lib.hid ho4; have HB4 := Lib.hid hb4; have hz4 := hb4.size; have HG4 := Lib.hid (HG.out.later hb4); clear ho4 hb4 u0 u1 u2 u3 u4)
        | (at_builtin; refine wpList_pushAllA rfl (.tmp 46) (.tmp 50) 25 rfl g0 9 _ 1 16 encString rfl String_info rfl (by omega) _ RP TL A4 c4 _ rfl rfl (HO4.out.rd encString_len) hTLp HG4.out encString_len (by simp [encString, Value.oneCell']) (by omega) (by omega) (by omega) ?_; intro v5 w5 g5 b5 gb5 k5; have HG5 := Lib.hid g5; have HB5 := Lib.hid b5; have hz5 := b5.size; clear g5 b5 gb5 k5)
        | (at_builtin; refine wpList_push rfl (.tmp 51) (.tmp 54) 25 rfl g0 9 _ 1 16 encString rfl String_info rfl (by omega) _ (RP ++ TL) [R, R] 2 rfl rfl (by simp) HG5.out rfl encString_len (Hone2.out _) (by simp only [List.length_append, List.length_cons, List.length_nil]; omega) (by omega) (by omega) ?_; intro v6 w6 g6 b6 gb6; have HG6 := Lib.hid g6; have HB6 := Lib.hid b6; clear g6 b6 gb6))
      obtain ⟨A7, c7, rfl, ho7⟩ := HG6.out.own encString_len
      have HO7 := Lib.hid ho7
      clear ho7
      go_ret2
      exact TRowOut.yes hRs.out (HO7.out.mono (by omega) (Nat.le_refl _)) ((((hWb.out.trans (HBW.out.mono (by omega))).trans (HB4.out.mono (by omega))).trans (HB5.out.mono (by omega))).trans (HB6.out.mono (by omega)))
end Go.Proofs.YtkegbbndmfnolaaGreat
