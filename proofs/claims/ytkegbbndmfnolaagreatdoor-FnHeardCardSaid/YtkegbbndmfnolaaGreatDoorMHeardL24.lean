import Derived.Test.YtkegbbndmfnolaaGreatDoorMHeardL20
import Derived.Test.YtkegbbndmfnolaaGreatDoorMHeardL23
/-
  Contracts: what is spoken for a touch (both sides).
-/
namespace Go.Proofs.YtkegbbndmfnolaaGreatDoor
open Go.RowKit
set_option linter.unusedVariables false
set_option linter.unusedSimpArgs false
set_option maxRecDepth 100000






/-- A list of spoken words and whether it is one are handed back. -/
def SayOut (r : List Spk × Bool) (w : World) (e : Ending) (w' : World) : Prop := ∃ A c, e = .returned (.tuple #[.slice A r.1.length c, .bool r.2]) ∧ OwnL w' w.heap.size w'.heap.size A 2 Spk.enc r.1 ∧ Below w.heap.size w w'
theorem SayOut.no {w w' : World} {e : Ending} (he : e = .returned (.tuple #[.slice none 0 0, .bool false])) (hb : Below w.heap.size w w') : SayOut ([], false) w e w' := ⟨none, 0, he, .inl rfl, hb⟩
theorem Grow.capI {α : Type} {w : World} {base : Nat} {e : TypeId} {size : Nat} {enc : α → List Value} {l : List α} {A : Option Addr} {n c : Nat} (h : Grow w base e size enc (.slice A n c) l) : n ≤ c := by
  rcases h.2 with ⟨h1, h2⟩ | ⟨g, cap, cur, h1, h2, h3, h4, h5, _⟩
  · injection h1 with _ e1 e2; omega
  · injection h1 with _ e1 e2; omega
/-- What SpokenFor gives back, with the slice's room. -/
def SayOutC (r : List Spk × Bool) (w : World) (e : Ending) (w' : World) : Prop := ∃ A c, e = .returned (.tuple #[.slice A r.1.length c, .bool r.2]) ∧ r.1.length ≤ c ∧ OwnL w' w.heap.size w'.heap.size A 2 Spk.enc r.1 ∧ Below w.heap.size w w'
theorem SayOutC.no {w w' : World} {e : Ending} (he : e = .returned (.tuple #[.slice none 0 0, .bool false])) (hb : Below w.heap.size w w') : SayOutC ([], false) w e w' := ⟨none, 0, he, Nat.le_refl _, .inl rfl, hb⟩
theorem spk_lit (w : World) (first : Int) (n : Int) (t : ByteArray) {b : Nat} (hb : b ≤ w.heap.size) : Grow (w.alloc (.cells #[.int .i64 (first - 1), .string ⟨#[103, 111]⟩] 108)) b 108 2 Spk.enc (.slice (some ⟨w.heap.size, 0, none⟩) 1 1) (sayTo n first t 0) := by
  rw [sayTo_zero]; exact Grow.lit [⟨first - 1, goW⟩] rfl hb (by simp [maxLen]) Spk_enc_len
theorem mul_bd {n k : Nat} (hn : n ≤ 40) (hk : k ≤ 60) : 0 ≤ (n : Int) * (k : Int) ∧ (n : Int) * (k : Int) ≤ 2400 := by
  have h := Nat.mul_le_mul hn hk
  have e : ((n * k : Nat) : Int) = (n : Int) * (k : Int) := by simp
  omega
theorem mul_bd1 {n k : Nat} (hn : n ≤ 40) (hk : k < 60) : 0 ≤ (n : Int) * ((k : Int) + 1) ∧ (n : Int) * ((k : Int) + 1) ≤ 2400 := by
  have h := mul_bd hn (show k + 1 ≤ 60 by omega)
  have e : ((k + 1 : Nat) : Int) = (k : Int) + 1 := by omega
  rw [e] at h; exact h

set_option maxHeartbeats 3200000 in
theorem spokenForC_any (m : Mth) (b s t : ByteArray) (first : Int) (w : World) (h : MkOk m b s w) (hc : condP m b s) (ht : t.size ≤ 1048576) :
    Calls Tryz.prog 145 #[.agg #[Value.string m.name, .int .i64 m.stage, .slice m.A m.x.length m.c], .agg #[Value.string b, .string s], .string t, .int .i64 first] w fun e w' => SayOutC (sayR m b s t first) w e w' := by
  have hg := hc.1.geo
  by_cases c1 : touchP t
  rotate_left
  · have e1 := B_f c1
    have hR : Hid (sayR m b s t first = ([], false)) := Lib.hid (sayR_f (fun x => c1 x.2.2.1))
    clear c1 hg hc
    have hW : ∃ W : World, Hid ((w.alloc (.cells #[Value.string m.name, .int .i64 m.stage, .slice m.A m.x.length m.c] 26)).alloc (.cells #[Value.string b, .string s] 28) = W) ∧ Hid (Below w.heap.size w W) ∧ w.heap.size + 2 ≤ W.heap.size ∧ Hid (Cells W w.heap.size 3 (fun i => (#[Value.string m.name, .int .i64 m.stage, .slice m.A m.x.length m.c] : Array Value).getD i undef)) ∧ Hid (Cells W (w.heap.size + 1) 2 (fun i => (#[Value.string b, .string s] : Array Value).getD i undef)) := by
      have z1 : w.heap.size + 1 = (w.alloc (.cells #[Value.string m.name, .int .i64 m.stage, .slice m.A m.x.length m.c] 26)).heap.size := by simp
      refine ⟨_, Lib.hid rfl, Lib.hid (((Below.refl _ _).alloc (Nat.le_refl _) _).alloc (by simp) _), by simp, Lib.hid ?_, Lib.hid ?_⟩
      · exact (Cells.newD _ #[Value.string m.name, .int .i64 m.stage, .slice m.A m.x.length m.c] _).alloc _
      · rw [z1]; exact Cells.newD _ #[Value.string b, .string s] _
    obtain ⟨W, hWe, hWb, hWs, hM, hK⟩ := hW
    have H := Lib.hid (h.later hWb.out)
    clear h
    go_enter Tryz.func145, Tryz.ntmps145
    go_wp2_with fail
    rw [hWe.out]
    clear hWe
    go_wp2_with (go_at_call 109; refine (touch_any t _ (by omega)).mono ?_; rintro e w' ⟨rfl, rfl⟩)
    go_ret2
    rw [hR.out]
    exact SayOutC.no rfl hWb.out
  have e1 := B_t c1
  by_cases c2 : inB first 1 20
  rotate_left
  · have e2 := B_f c2
    have hR : Hid (sayR m b s t first = ([], false)) := Lib.hid (sayR_f (fun x => c2 x.2.2.2.1))
    clear c1 c2 hg hc
    have hW : ∃ W : World, Hid ((w.alloc (.cells #[Value.string m.name, .int .i64 m.stage, .slice m.A m.x.length m.c] 26)).alloc (.cells #[Value.string b, .string s] 28) = W) ∧ Hid (Below w.heap.size w W) ∧ w.heap.size + 2 ≤ W.heap.size ∧ Hid (Cells W w.heap.size 3 (fun i => (#[Value.string m.name, .int .i64 m.stage, .slice m.A m.x.length m.c] : Array Value).getD i undef)) ∧ Hid (Cells W (w.heap.size + 1) 2 (fun i => (#[Value.string b, .string s] : Array Value).getD i undef)) := by
      have z1 : w.heap.size + 1 = (w.alloc (.cells #[Value.string m.name, .int .i64 m.stage, .slice m.A m.x.length m.c] 26)).heap.size := by simp
      refine ⟨_, Lib.hid rfl, Lib.hid (((Below.refl _ _).alloc (Nat.le_refl _) _).alloc (by simp) _), by simp, Lib.hid ?_, Lib.hid ?_⟩
      · exact (Cells.newD _ #[Value.string m.name, .int .i64 m.stage, .slice m.A m.x.length m.c] _).alloc _
      · rw [z1]; exact Cells.newD _ #[Value.string b, .string s] _
    obtain ⟨W, hWe, hWb, hWs, hM, hK⟩ := hW
    have H := Lib.hid (h.later hWb.out)
    clear h
    go_enter Tryz.func145, Tryz.ntmps145
    go_wp2_with fail
    rw [hWe.out]
    clear hWe
    go_wp2_with (first | (go_at_call 109; refine (touch_any t _ (by omega)).mono ?_; rintro e w' ⟨rfl, rfl⟩) | (go_at_call 71; refine (within_any _ _ _ _).mono ?_; rintro e w' ⟨rfl, rfl⟩))
    go_ret2
    rw [hR.out]
    exact SayOutC.no rfl hWb.out
  have e2 := B_t c2
  have hcr : Hid (∀ W, MkOk m b s W → Calls Tryz.prog 175 #[.agg #[Value.string m.name, .int .i64 m.stage, .slice m.A m.x.length m.c], .agg #[Value.string b, .string s], .string t] W fun e w' => e = .returned (.bool (B (roundP m.stage.toNat m.x b s t))) ∧ Below W.heap.size W w') := Lib.hid (fun W hW => by
    have := comesRound_any m.name m.stage.toNat m.x m.A m.c b s t W hW.rd hg.n3 hg.n8 hW.xl hg.l0 hg.ok c1
    rw [← hg.st] at this; exact this)
  by_cases c3 : roundP m.stage.toNat m.x b s t
  rotate_left
  · have e3 := B_f c3
    have hR : Hid (sayR m b s t first = ([], false)) := Lib.hid (sayR_f (fun x => c3 x.2.2.2.2.1))
    clear c1 c2 c3 hg hc
    have hW : ∃ W : World, Hid ((w.alloc (.cells #[Value.string m.name, .int .i64 m.stage, .slice m.A m.x.length m.c] 26)).alloc (.cells #[Value.string b, .string s] 28) = W) ∧ Hid (Below w.heap.size w W) ∧ w.heap.size + 2 ≤ W.heap.size ∧ Hid (Cells W w.heap.size 3 (fun i => (#[Value.string m.name, .int .i64 m.stage, .slice m.A m.x.length m.c] : Array Value).getD i undef)) ∧ Hid (Cells W (w.heap.size + 1) 2 (fun i => (#[Value.string b, .string s] : Array Value).getD i undef)) := by
      have z1 : w.heap.size + 1 = (w.alloc (.cells #[Value.string m.name, .int .i64 m.stage, .slice m.A m.x.length m.c] 26)).heap.size := by simp
      refine ⟨_, Lib.hid rfl, Lib.hid (((Below.refl _ _).alloc (Nat.le_refl _) _).alloc (by simp) _), by simp, Lib.hid ?_, Lib.hid ?_⟩
      · exact (Cells.newD _ #[Value.string m.name, .int .i64 m.stage, .slice m.A m.x.length m.c] _).alloc _
      · rw [z1]; exact Cells.newD _ #[Value.string b, .string s] _
    obtain ⟨W, hWe, hWb, hWs, hM, hK⟩ := hW
    have H := Lib.hid (h.later hWb.out)
    clear h
    have u0 : W.cell? ⟨w.heap.size, 0, none⟩ = some (.string m.name) := hM.out.cell (i := 0) (by omega)
    have u1 : W.cell? ⟨w.heap.size, 1, none⟩ = some (.int .i64 m.stage) := hM.out.cell (i := 1) (by omega)
    have u2 : W.cell? ⟨w.heap.size, 2, none⟩ = some (.slice m.A m.x.length m.c) := hM.out.cell (i := 2) (by omega)
    have u3 : W.cell? ⟨w.heap.size + 1, 0, none⟩ = some (.string b) := hK.out.cell (i := 0) (by omega)
    have u4 : W.cell? ⟨w.heap.size + 1, 1, none⟩ = some (.string s) := hK.out.cell (i := 1) (by omega)
    go_enter Tryz.func145, Tryz.ntmps145
    go_wp2_with fail
    rw [hWe.out]
    clear hWe
    go_wp2_with (first | (go_at_call 109; refine (touch_any t _ (by omega)).mono ?_; rintro e w' ⟨rfl, rfl⟩) | (go_at_call 71; refine (within_any _ _ _ _).mono ?_; rintro e w' ⟨rfl, rfl⟩) | (go_at_call 175; refine (hcr.out _ H.out).mono ?_; rintro e w1 ⟨rfl, hb1⟩))
    go_ret2
    rw [hR.out]
    exact SayOutC.no rfl (hWb.out.trans (hb1.mono hWb.out.size))
  have e3 := B_t c3
  have Ht := Lib.hid c1
  have hts := c1.2.2
  have hf1 := c2.1
  have hf2 := c2.2
  have hN40 := hg.l40
  have hsay : Hid (first + (m.x.length : Int) * (t.size : Int) + 1 ≤ 3000 → sayR m b s t first = (sayL m.x.length first t, true)) := Lib.hid (fun x => sayR_t ⟨hc.1, hc.2, c1, c2, c3, x⟩)
  clear c1 c2 c3 hc
  have hW : ∃ W : World, Hid ((w.alloc (.cells #[Value.string m.name, .int .i64 m.stage, .slice m.A m.x.length m.c] 26)).alloc (.cells #[Value.string b, .string s] 28) = W) ∧ Hid (Below w.heap.size w W) ∧ w.heap.size + 2 ≤ W.heap.size ∧ Hid (Cells W w.heap.size 3 (fun i => (#[Value.string m.name, .int .i64 m.stage, .slice m.A m.x.length m.c] : Array Value).getD i undef)) ∧ Hid (Cells W (w.heap.size + 1) 2 (fun i => (#[Value.string b, .string s] : Array Value).getD i undef)) := by
    have z1 : w.heap.size + 1 = (w.alloc (.cells #[Value.string m.name, .int .i64 m.stage, .slice m.A m.x.length m.c] 26)).heap.size := by simp
    refine ⟨_, Lib.hid rfl, Lib.hid (((Below.refl _ _).alloc (Nat.le_refl _) _).alloc (by simp) _), by simp, Lib.hid ?_, Lib.hid ?_⟩
    · exact (Cells.newD _ #[Value.string m.name, .int .i64 m.stage, .slice m.A m.x.length m.c] _).alloc _
    · rw [z1]; exact Cells.newD _ #[Value.string b, .string s] _
  obtain ⟨W, hWe, hWb, hWs, hM, hK⟩ := hW
  have H := Lib.hid (h.later hWb.out)
  clear h
  have u0 : W.cell? ⟨w.heap.size, 0, none⟩ = some (.string m.name) := hM.out.cell (i := 0) (by omega)
  have u1 : W.cell? ⟨w.heap.size, 1, none⟩ = some (.int .i64 m.stage) := hM.out.cell (i := 1) (by omega)
  have u2 : W.cell? ⟨w.heap.size, 2, none⟩ = some (.slice m.A m.x.length m.c) := hM.out.cell (i := 2) (by omega)
  have u3 : W.cell? ⟨w.heap.size + 1, 0, none⟩ = some (.string b) := hK.out.cell (i := 0) (by omega)
  have u4 : W.cell? ⟨w.heap.size + 1, 1, none⟩ = some (.string s) := hK.out.cell (i := 1) (by omega)
  obtain ⟨N, hN⟩ : ∃ N, Hid (m.x.length = N) := ⟨_, Lib.hid rfl⟩
  have hN2 : N ≤ 40 := by rw [← hN.out]; exact hN40
  clear hN40 hg
  go_enter Tryz.func145, Tryz.ntmps145
  go_wp2_with fail
  rw [hWe.out]
  clear hWe
  go_upto_region 3 with (first | (go_at_call 109; refine (touch_any t _ (by omega)).mono ?_; rintro e w' ⟨rfl, rfl⟩) | (go_at_call 71; refine (within_any _ _ _ _).mono ?_; rintro e w' ⟨rfl, rfl⟩) | (go_at_call 175; refine (hcr.out _ H.out).mono ?_; rintro e w1 ⟨rfl, hb1⟩; have Hb1 := Lib.hid hb1; have hs1 := hb1.size; have q2 : w1.cell? ⟨w.heap.size, 2, none⟩ = some (.slice m.A N m.c) := (hb1.cell (p := ⟨w.heap.size, 2, none⟩) (show w.heap.size < W.heap.size by omega)).trans (by rw [← hN.out]; exact u2); clear hb1))
  have hsay2 : Hid (first + (N : Int) * (t.size : Int) + 1 ≤ 3000 → sayR m b s t first = (sayL N first t, true)) := Lib.hid (by rw [← hN.out]; exact hsay.out)
  have g0 := Lib.hid (spk_lit w1 first N t (b := w1.heap.size) (Nat.le_refl _))
  clear hsay hcr u0 u1 u2 u3 u4
  go_wp2_with fail
  go_loopw [11, 38] (fun q j wr => ∃ k : Nat, k ≤ t.size ∧ j = .int .i64 k ∧ Grow wr w1.heap.size 108 2 Spk.enc q (sayTo N first t k) ∧ Below w1.heap.size w1 wr) (fun _ j _ => t.size - (intOf j).toNat)
  case atStart => exact ⟨0, by omega, by rfl, g0.out, (Below.refl _ _).alloc (Nat.le_refl _) _⟩
  case round =>
    obtain ⟨k, hk, rfl, hgr, hbl⟩ := hrel
    have Hg := Lib.hid hgr
    have Hb0 := Lib.hid hbl
    have hg0 := hbl.size
    have hlen : (sayTo N first t k).length ≤ 61 := by have := sayTo_len N first t k; omega
    clear hgr hbl g0 q2
    by_cases hlt : k < t.size
    · have hsu := Lib.hid (sayTo_succ N first t k)
      have hmb := mul_bd1 hN2 (show k < 60 by omega)
      have hm0 := hmb.1
      have hm1 := hmb.2
      have hrow : Hid (sayRow N first k = first + (N : Int) * ((k : Int) + 1) - 2) := Lib.hid rfl
      clear hmb
      by_cases e98 : bat t k = 98
      · have d1 : (bat t k == 98) = true := beq_iff_eq.2 e98
        rw [e98, sayAt_b] at hsu
        clear e98
        go_wp2_with (at_builtin; go_loud (refine wpList_push rfl (.tmp 46) (.tmp 55) 52 rfl w1.heap.size 108 _ 2 24 Spk.enc rfl Spoken_info rfl (by omega) u11 (sayTo N first t k) [⟨sayRow N first k, bobW⟩] 1 rfl rfl (by simp) (Hg.out) rfl Spk_enc_len (by simp [Value.oneCell']) (by first | omega | (simp; omega)) (by omega) (by first | omega | (simp; omega)) ?_; intro v' w2 hg2 hb2 _))
        go_roundw
        case rel => exact ⟨k + 1, by omega, by go_num, by rw [hsu.out]; exact hg2, Hb0.out.trans hb2⟩
        case measure => simp [intOf]; omega
      · have d1 : (bat t k == 98) = false := beq_eq_false_iff_ne.2 e98
        by_cases e115 : bat t k = 115
        · have d2 : (bat t k == 115) = true := beq_iff_eq.2 e115
          rw [e115, sayAt_s] at hsu
          clear e98 e115
          go_wp2_with (at_builtin; go_loud (refine wpList_push rfl (.tmp 59) (.tmp 68) 52 rfl w1.heap.size 108 _ 2 24 Spk.enc rfl Spoken_info rfl (by omega) u11 (sayTo N first t k) [⟨sayRow N first k, singleW⟩] 1 rfl rfl (by simp) (Hg.out) rfl Spk_enc_len (by simp [Value.oneCell']) (by first | omega | (simp; omega)) (by omega) (by first | omega | (simp; omega)) ?_; intro v' w2 hg2 hb2 _))
          go_roundw
          case rel => exact ⟨k + 1, by omega, by go_num, by rw [hsu.out]; exact hg2, Hb0.out.trans hb2⟩
          case measure => simp [intOf]; omega
        · have d2 : (bat t k == 115) = false := beq_eq_false_iff_ne.2 e115
          rw [sayAt_p _ _ _ _ e98 e115, List.append_nil] at hsu
          clear e98 e115
          go_wp2
          go_roundw
          case rel => exact ⟨k + 1, by omega, by go_num, by rw [hsu.out]; exact Hg.out, Hb0.out⟩
          case measure => simp [intOf]; omega
    · obtain rfl : k = t.size := by omega
      have hmb := mul_bd hN2 hts
      have hm0 := hmb.1
      have hm1 := hmb.2
      have hL : Hid (sayL N first t = sayTo N first t t.size ++ [⟨first + (N : Int) * (t.size : Int), allW⟩, ⟨first + (N : Int) * (t.size : Int) + 1, standW⟩]) := Lib.hid rfl
      obtain ⟨last, hlast⟩ : ∃ last, Hid (first + (N : Int) * (t.size : Int) = last) := ⟨_, Lib.hid rfl⟩
      rw [hlast.out] at hL hsay2
      have hl1 : 1 ≤ last ∧ last ≤ 2420 := by rw [← hlast.out]; omega
      have hR := Lib.hid (hsay2.out (by omega))
      clear hmb
      have hlb := hlast.out
      go_wp2_with (at_builtin; go_loud (refine wpList_push rfl (.tmp 77) (.tmp 83) 52 rfl w1.heap.size 108 _ 2 24 Spk.enc rfl Spoken_info rfl (by omega) u11 (sayTo N first t t.size) [⟨last, allW⟩, ⟨last + 1, standW⟩] 2 rfl rfl (by simp) (Hg.out) rfl Spk_enc_len (by simp [Value.oneCell']) (by first | omega | (simp; omega)) (by omega) (by first | omega | (simp; omega)) ?_; intro v' w2 hg2 hb2 _))
      go_ret2
      obtain ⟨A2, c2, hv, ho⟩ := hg2.own Spk_enc_len
      rw [hR.out]
      have hz : w.heap.size ≤ w1.heap.size := by omega
      have hcq : (sayTo N first t t.size ++ [(⟨last, allW⟩ : Spk), (⟨last + 1, standW⟩ : Spk)]).length ≤ c2 := by rw [hv] at hg2; exact hg2.capI
      refine ⟨A2, c2, ?_, ?_, ?_, ?_⟩
      · rw [hL.out, hv]; rfl
      · rw [hL.out]; exact hcq
      · rw [hL.out]; exact ho.mono hz (Nat.le_refl _)
      · exact ((hWb.out.trans (Hb1.out.mono hWb.out.size)).trans (Hb0.out.mono hz)).trans (hb2.mono hz)
end Go.Proofs.YtkegbbndmfnolaaGreatDoor
