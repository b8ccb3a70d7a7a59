import Derived.Test.YtkegbbndmfnolaaGreatDoorMHeardL26
import Derived.Test.YtkegbbndmfnolaaGreatDoorMHeardL31
/-
  Drawn arguments of FnHeard: spoken words, their texts, a row, words heard.
-/
namespace Go.Proofs.YtkegbbndmfnolaaGreatDoor
open Go.RowKit
set_option linter.unusedVariables false
set_option linter.unusedSimpArgs false
set_option maxRecDepth 100000








theorem bgo {w w1 w2 : World} (h : Below w.heap.size w w1) (k : Below w1.heap.size w1 w2) : Below w.heap.size w w2 := h.trans (k.mono h.size)
theorem RdL.go {α : Type} {w w' : World} {A : Option Addr} {size : Nat} {enc : α → List Value} {l : List α} (h : RdL w w.heap.size A size enc l) (k : Below w.heap.size w w') : RdL w' w'.heap.size A size enc l := (h.below k (Nat.le_refl _)).more k.size
theorem Chg.free {b c b' c' : Nat} {w w' w'' : World} (h : Chg b c w w') (k : Chg b' c' w' w'') (hb : w.heap.size ≤ b') : Chg b c w w'' :=
  ⟨k.os.trans h.os, k.tape.trans h.tape, k.output.trans h.output, Nat.le_trans h.size k.size, fun i hi hr => (k.block i (Nat.lt_of_lt_of_le hi h.size) (.inl (Nat.lt_of_lt_of_le hi hb))).trans (h.block i hi hr)⟩
/-- Drawn spoken words as a result. -/
def GsDrawn (w : World) (e : Ending) (w' : World) : Prop := ∃ (l : List Spk) (A2 : Option Addr) (c2 : Nat), e = .returned (.slice A2 l.length c2) ∧ l.length ≤ 63 ∧ l.length ≤ c2 ∧ RdL w' w'.heap.size A2 2 Spk.enc l ∧ Below w.heap.size w w'

set_option maxHeartbeats 1600000 in
theorem drawGoodSpoken_any (A : Option Addr) (c : Nat) (l : List Int) (w : World) (h : RdL w w.heap.size A 1 encByte l) (hb : ∀ x ∈ l, 0 ≤ x ∧ x < 256) (hl : l.length ≤ 9223372036854775807) : Calls Tryz.prog 83 #[.slice A l.length c] w fun e w' => GsDrawn w e w' := by
  have H := Lib.hid h
  have Hb := Lib.hid hb
  clear h hb
  go_enter Tryz.func83, Tryz.ntmps83
  go_upto_region 2 with (first | (go_at_call 137; refine (drawTouchSaid_any A c l w H.out Hb.out hl).mono ?_; rintro e w1 ⟨m, b, s, X, A2, c2, rfl, h63, hc, hrd, hb1⟩; have HRD := Lib.hid hrd; have HB1 := Lib.hid hb1; clear hrd hb1) | fail)
  obtain ⟨V, hVe, hVb⟩ : ∃ V : World, Hid (((w1.alloc (.cells #[Value.string m.name, .int .i64 m.stage, .slice m.A m.x.length m.c] 26)).alloc (.cells #[Value.string b, .string s] 28)) = V) ∧ Hid (Below w1.heap.size w1 V) := ⟨_, Lib.hid rfl, Lib.hid (((Below.refl _ _).alloc (Nat.le_refl _) _).alloc (by simp) _)⟩
  rw [hVe.out]
  clear hVe
  go_wp2
  go_ret
  exact ⟨X, A2, c2, rfl, h63, hc, (HRD.out V (Chg.of_below hVb.out)).2, bgo HB1.out hVb.out⟩
theorem drawSpokenText_any (A : Option Addr) (c : Nat) (l : List Int) (w : World) (h : RdL w w.heap.size A 1 encByte l) (hb : ∀ x ∈ l, 0 ≤ x ∧ x < 256) (hl : l.length ≤ 9223372036854775807) : Calls Tryz.prog 24 #[.slice A l.length c] w fun e w' => GsDrawn w e w' := by
  have H := Lib.hid h
  have Hb := Lib.hid hb
  clear h hb
  go_enter Tryz.func24, Tryz.ntmps24
  go_wp2_with (first | (go_at_call 83; refine (drawGoodSpoken_any A c l w H.out Hb.out hl).mono ?_; rintro e w1 ⟨X, A2, c2, rfl, h63, hc, hrd, hb1⟩; have HRD := Lib.hid hrd; have HB1 := Lib.hid hb1; clear hrd hb1) | fail)
  go_ret
  exact ⟨X, A2, c2, rfl, h63, hc, HRD.out, HB1.out⟩
/-- Drawn spoken words and a row as a result. -/
def SaDrawn (w : World) (e : Ending) (w' : World) : Prop := ∃ (l : List Spk) (A2 : Option Addr) (c2 : Nat) (r : Int), e = .returned (.tuple #[.slice A2 l.length c2, .int .i64 r]) ∧ l.length ≤ 63 ∧ l.length ≤ c2 ∧ RdL w' w'.heap.size A2 2 Spk.enc l ∧ Below w.heap.size w w'
set_option maxHeartbeats 3200000 in
theorem drawSaidAt_any (A : Option Addr) (c : Nat) (l : List Int) (w : World) (h : RdL w w.heap.size A 1 encByte l) (hb : ∀ x ∈ l, 0 ≤ x ∧ x < 256) (hl : l.length ≤ 9223372036854775807) : Calls Tryz.prog 30 #[.slice A l.length c] w fun e w' => SaDrawn w e w' := by
  have H := Lib.hid h
  have Hb := Lib.hid hb
  clear h hb
  go_enter Tryz.func30, Tryz.ntmps30
  go_upto_region 2 with (first | (go_at_call 83; refine (drawGoodSpoken_any A c l w H.out Hb.out hl).mono ?_; rintro e w1 ⟨X, A2, c2, rfl, h63, hXc, hrd, hb1⟩; have HRD := Lib.hid hrd; have HB1 := Lib.hid hb1; clear hrd hb1) | fail)
  have HCN := Lib.hid (Cur.new (c := c) (H.out.go HB1.out) Hb.out hl 84)
  go_upto_region 3 with fail
  obtain ⟨V, hVe, hVb, HC, hg⟩ : ∃ V : World, Hid (w1.alloc (.cells #[.slice A l.length c, .int .i64 0, .int .u64 0] 84) = V) ∧ Hid (Below w1.heap.size w1 V) ∧ Hid (Cur V w1.heap.size 0) ∧ w1.heap.size < V.heap.size := ⟨_, Lib.hid rfl, Lib.hid ((Below.refl _ _).alloc (Nat.le_refl _) _), HCN, by simp⟩
  rw [hVe.out]
  clear hVe HCN
  have HRV : Hid (∀ W, Turn w1.heap.size V W → RdL W W.heap.size A2 2 Spk.enc X) := Lib.hid fun W ht => ((HRD.out.below (Below.chg hVb.out ht (Nat.le_refl _) (by omega)) (Nat.le_refl _))).more (by have := ht.size; omega)
  have HBV : Hid (∀ W, Turn w1.heap.size V W → Below w.heap.size w W) := Lib.hid fun W ht => bgo HB1.out (Below.chg hVb.out ht (Nat.le_refl _) (by omega))
  clear HRD
  obtain ⟨g, hge⟩ : ∃ g, Hid (w1.heap.size = g) := ⟨_, Lib.hid rfl⟩
  rw [hge.out] at HC HRV HBV hg ⊢
  by_cases h0 : 0 < X.length
  · have d0 : decide ((0 : Int) < (X.length : Int)) = true := by simp; omega
    obtain ⟨L, hL⟩ : ∃ L, Hid (X.length = L) := ⟨_, Lib.hid rfl⟩
    rw [hL.out] at h63 hXc h0 d0 ⊢
    go_upto_region 4 with (first | (go_at_call 55; refine (one_any g 0 2 V HC.out (by omega) (by omega)).mono ?_; rintro e w2 ⟨b2, rfl, hc2, ht2⟩; have HC2 := Lib.hid hc2; have HT2 := Lib.hid ht2; have hz2 := ht2.size; clear hc2 ht2; cases b2) | fail)
    · go_wp2_with (first | (go_at_call 53; refine (pick_any g 2 30 w2 HC2.out (by omega) (by omega)).mono ?_; rintro e w3 ⟨y, rfl, _, _, hc3, ht3⟩; have HT3 := Lib.hid (HT2.out.trans ht3); clear hc3 ht3) | fail)
      go_ret2
      exact ⟨X, A2, c2, y, by rw [hL.out]; rfl, by rw [hL.out]; exact h63, by rw [hL.out]; exact hXc, HRV.out _ HT3.out, HBV.out _ HT3.out⟩
    · have HPk : Hid (∀ W, Below w2.heap.size w2 W → Calls Tryz.prog 53 #[.pointer (some ⟨g, 0, none⟩), .int .i64 (L : Int)] W fun e w' => ∃ v, e = .returned v ∧ ∃ k : Nat, v = .int .i64 (k : Int) ∧ k < L ∧ Turn g V w') := Lib.hid fun W hb => by
        have := pick_any g 2 (L : Int) W (HC2.out.later hb) (by omega) (by omega)
        exact this.mono fun e w' ⟨y, he, h0, h1, hc, ht⟩ => ⟨_, he, y.toNat, by rw [show ((y.toNat : Nat) : Int) = y by omega], by omega, (HT2.out.then hb).trans ht⟩
      obtain ⟨gX, oX, hAX, _, _⟩ := (HRV.out w2 HT2.out).at (k := 0) (by rw [hL.out]; exact h0)
      subst hAX
      go_region_law (first
        | (refine step_callsX (by rfl) 53 (by rfl) #[.pointer (some ⟨g, 0, none⟩), .int .i64 (L : Int)] (by go_simp) (HPk.out _ (by repeat (first | exact Below.refl _ _ | refine Below.drew ?_ | refine Below.alloc ?_ (Nat.le_refl _) _))) ?_; rintro v w3 ⟨k, rfl, hk, ht3⟩; have HT3 := Lib.hid ht3; obtain ⟨gX', oX', hAX', _, hcX⟩ := (HRV.out w3 ht3).at (k := k) (by rw [hL.out]; exact hk); simp only [Option.some.injEq, Addr.mk.injEq, and_true] at hAX'; obtain ⟨rfl, rfl⟩ := hAX'; have x0 := hcX 0 _ rfl; simp only [Nat.add_zero] at x0; obtain ⟨xx, hxx⟩ : ∃ xx, Hid (X[k]'(by rw [hL.out]; exact hk) = xx) := ⟨_, Lib.hid rfl⟩; rw [hxx.out] at x0; clear ht3 hcX)
        | fail)
      all_goals
        go_wp2
        go_ret2
        exact ⟨X, _, c2, xx.row, by rw [hL.out]; rfl, by rw [hL.out]; exact h63, by rw [hL.out]; exact hXc, (HRV.out w3 HT3.out), HBV.out w3 HT3.out⟩
  · have hL0 : Hid (X = []) := Lib.hid (List.eq_nil_of_length_eq_zero (by omega))
    have d0 : decide ((0 : Int) < (X.length : Int)) = false := decide_eq_false (by omega)
    obtain ⟨L, hL⟩ : ∃ L, Hid (X.length = L) := ⟨_, Lib.hid rfl⟩
    rw [hL.out] at h63 hXc d0 h0 ⊢
    go_wp2_with (first | (go_at_call 53; refine (pick_any g 0 30 V HC.out (by omega) (by omega)).mono ?_; rintro e w3 ⟨y, rfl, _, _, hc3, ht3⟩; have HT3 := Lib.hid ht3; clear hc3 ht3) | fail)
    go_ret2
    exact ⟨X, A2, c2, y, by rw [hL.out]; rfl, by rw [hL.out]; exact h63, by rw [hL.out]; exact hXc, HRV.out _ HT3.out, HBV.out _ HT3.out⟩
open Classical in
/-- What SpokenText answers. -/
noncomputable def stR (l : List Spk) : ByteArray × Bool := if spokenLP l then (spkTo l l.length, true) else (⟨#[]⟩, false)
theorem stR_t {l : List Spk} (h : spokenLP l) : stR l = (spkTo l l.length, true) := if_pos h
theorem stR_f {l : List Spk} (h : ¬ spokenLP l) : stR l = (⟨#[]⟩, false) := if_neg h
theorem spkTo_le {l : List Spk} (h : spokenLP l) : ∀ k, k ≤ l.length → (spkTo l k).size ≤ 64 * k
  | 0, _ => Nat.le_refl _
  | k + 1, hk => by
    have ih := spkTo_le h k (by omega)
    obtain ⟨⟨a, b⟩, c, _⟩ := h.2 k (by omega)
    have h1 : (numS l[k].row.toNat).size ≤ 10 := numS_bd (by omega)
    have h2 := spoken_size c
    rw [spkTo_succ (by omega)]
    simp only [size_app]
    have e1 : (⟨#[32]⟩ : ByteArray).size = 1 := rfl
    have e2 : (⟨#[10]⟩ : ByteArray).size = 1 := rfl
    omega
theorem stR_size (l : List Spk) : (stR l).1.size ≤ 4032 := by
  by_cases h : spokenLP l
  · rw [stR_t h]; have := spkTo_le h l.length (Nat.le_refl _); have := h.1; show (spkTo l l.length).size ≤ 4032; omega
  · rw [stR_f h]; exact Nat.zero_le _
theorem sSpokenText_r (l : List Spk) (A : Option Addr) (c : Nat) (w : World) (h : RdL w w.heap.size A 2 Spk.enc l) (hl : l.length ≤ 1048576) :
    Calls Tryz.prog 26 #[.slice A l.length c] w fun e w' => e = .returned (.tuple #[.string (stR l).1, .bool (stR l).2]) ∧ Below w.heap.size w w' := by
  by_cases hp : spokenLP l
  · rw [stR_t hp]; exact sSpokenText0_t l A c w h hl hp
  · rw [stR_f hp]; exact sSpokenText_f l A c w h hl hp
theorem iSpokenText_r (l : List Spk) (A : Option Addr) (c : Nat) (w : World) (h : RdL w w.heap.size A 2 Spk.enc l) (hl : l.length ≤ 1048576) (htab : Tab w) :
    Calls Tryz.prog 25 #[.slice A l.length c] w fun e w' => e = .returned (.tuple #[.string (stR l).1, .bool (stR l).2]) ∧ Below w.heap.size w w' := by
  by_cases hp : spokenLP l
  · rw [stR_t hp]; exact iSpokenText_t l A c w h hl htab hp
  · rw [stR_f hp]; exact iSpokenText_f l A c w h hl hp
set_option maxHeartbeats 3200000 in
theorem drawReadSpoken_any (A : Option Addr) (c : Nat) (l : List Int) (w : World) (h : RdL w w.heap.size A 1 encByte l) (hb : ∀ x ∈ l, 0 ≤ x ∧ x < 256) (hl : l.length ≤ 9223372036854775807) : Calls Tryz.prog 27 #[.slice A l.length c] w fun e w' => ∃ s : ByteArray, e = .returned (.string s) ∧ s.size ≤ 1048576 ∧ Below w.heap.size w w' := by
  have HCN := Lib.hid (Cur.new (c := c) h hb hl 84)
  have H := Lib.hid h
  have Hb := Lib.hid hb
  clear h hb
  go_enter Tryz.func27, Tryz.ntmps27
  go_upto_region 2 with fail
  obtain ⟨V, hVe, hVb, HC, hg⟩ : ∃ V : World, Hid (w.alloc (.cells #[.slice A l.length c, .int .i64 0, .int .u64 0] 84) = V) ∧ Hid (Below w.heap.size w V) ∧ Hid (Cur V w.heap.size 0) ∧ w.heap.size < V.heap.size := ⟨_, Lib.hid rfl, Lib.hid ((Below.refl _ _).alloc (Nat.le_refl _) _), HCN, by simp⟩
  rw [hVe.out]
  clear hVe HCN
  obtain ⟨g, hge⟩ : ∃ g, Hid (w.heap.size = g) := ⟨_, Lib.hid rfl⟩
  have hgl := hge.out
  rw [hge.out] at HC hg ⊢
  have HRV := Lib.hid (H.out.go hVb.out)
  go_upto_region 4 with (first
    | (go_at_call 83; refine (drawGoodSpoken_any A c l V HRV.out Hb.out hl).mono ?_; rintro e w1 ⟨X, A2, c2, rfl, h63, hXc, hrd, hb1⟩; have HRD := Lib.hid hrd; have HB1 := Lib.hid hb1; clear hrd hb1)
    | (go_at_call 26; refine (sSpokenText_r X A2 c2 w1 HRD.out (by omega)).mono ?_; rintro e w2 ⟨rfl, hb2⟩; have HB2 := Lib.hid (bgo HB1.out hb2); have hs4 := stR_size X; have HC2 := Lib.hid (HC.out.later HB2.out); have hz2 := HB2.out.size; clear hb2 HRD)
    | (go_at_call 55; refine (one_any g 0 2 w2 HC2.out (by omega) (by omega)).mono ?_; rintro e w3 ⟨b3, rfl, hc3, ht3⟩; have HC3 := Lib.hid hc3; have HT3 := Lib.hid ((Turn.of HB2.out).trans ht3); have hz3 := ht3.size; clear hc3 ht3; cases b3)
    | fail)
  · go_wp2
    go_ret
    exact ⟨_, rfl, by omega, Below.chg hVb.out HT3.out (by omega) (by omega)⟩
  · obtain ⟨S, hS⟩ : ∃ S, Hid ((stR X).1 = S) := ⟨_, Lib.hid rfl⟩
    rw [hS.out] at hs4 ⊢
    go_wp2_with (first | (go_at_call 88; refine (spoilt_any g 2 S _ w3 HC3.out (by omega) (by omega) (by decide) (by decide)).mono ?_; rintro e w4 ⟨s4, rfl, hs44, hc4, ht4⟩; have HT4 := Lib.hid (HT3.out.trans ht4); clear hc4 ht4) | fail)
    go_ret
    exact ⟨s4, rfl, by omega, Below.chg hVb.out HT4.out (by omega) (by omega)⟩
/-- A drawn method, calls, touch, row and words heard as a result. -/
def FwDrawn (w : World) (e : Ending) (w' : World) : Prop := ∃ (m : Mth) (b s t : ByteArray) (first : Int) (l : List Spk) (A2 : Option Addr) (c2 : Nat), e = .returned (.tuple #[.agg #[Value.string m.name, .int .i64 m.stage, .slice m.A m.x.length m.c], .agg #[Value.string b, .string s], .string t, .int .i64 first, .slice A2 l.length c2]) ∧ t.size ≤ 1048576 ∧ l.length ≤ 63 ∧ l.length ≤ c2 ∧ (∀ W', Chg 0 w.heap.size w' W' → MkOk m b s W' ∧ RdL W' W'.heap.size A2 2 Spk.enc l) ∧ Below w.heap.size w w'
set_option maxHeartbeats 16000000 in
theorem drawFirstWrong_any (A : Option Addr) (c : Nat) (l : List Int) (w : World) (h : RdL w w.heap.size A 1 encByte l) (hb : ∀ x ∈ l, 0 ≤ x ∧ x < 256) (hl : l.length ≤ 9223372036854775807) : Calls Tryz.prog 33 #[.slice A l.length c] w fun e w' => FwDrawn w e w' := by
  obtain ⟨W0, hWe, hWs, hWb, hR, hQ⟩ : ∃ W0 : World, Hid (((w.alloc (.cells #[Value.string ⟨#[]⟩, .int .i64 0, .slice none 0 0] 26)).alloc (.cells #[Value.string ⟨#[]⟩, .string ⟨#[]⟩] 28)) = W0) ∧ Hid (W0.heap.size = w.heap.size + 2) ∧ Hid (Below w.heap.size w W0) ∧ Hid (Cells W0 w.heap.size 3 (fun i => (#[Value.string ⟨#[]⟩, .int .i64 0, .slice none 0 0] : Array Value).getD i undef)) ∧ Hid (Cells W0 (w.heap.size + 1) 2 (fun i => (#[Value.string ⟨#[]⟩, .string ⟨#[]⟩] : Array Value).getD i undef)) := by
    have z1 : w.heap.size + 1 = (w.alloc (.cells #[Value.string ⟨#[]⟩, .int .i64 0, .slice none 0 0] 26)).heap.size := by simp
    refine ⟨_, Lib.hid rfl, Lib.hid (by simp), Lib.hid (((Below.refl _ _).alloc (Nat.le_refl _) _).alloc (by simp) _), Lib.hid ?_, Lib.hid ?_⟩
    · exact (Cells.newD _ #[Value.string ⟨#[]⟩, .int .i64 0, .slice none 0 0] _).alloc _
    · rw [z1]; exact Cells.newD _ #[Value.string ⟨#[]⟩, .string ⟨#[]⟩] _
  have hWs1 : w.heap.size + 2 = W0.heap.size := hWs.out.symm
  have H := Lib.hid (h.go hWb.out)
  have Hb := Lib.hid hb
  clear h hb
  go_enter Tryz.func33, Tryz.ntmps33
  go_upto_region 1 with fail
  rw [hWe.out]
  clear hWe
  go_upto_region 2 with (first | (go_at_call 94; refine (drawSpokenFor_any A c l W0 H.out Hb.out hl).mono ?_; rintro e w1 ⟨m, b, s, t, first, rfl, htt, hok, hb1⟩; have HOK := Lib.hid hok; have Ht := Lib.hid htt; have HB1 := Lib.hid hb1; have hz1 := hb1.size; clear hok htt hb1) | fail)
  obtain ⟨V, hVe, hVb, hM, hKc, hVs⟩ : ∃ V : World, Hid (((w1.alloc (.cells #[Value.string m.name, .int .i64 m.stage, .slice m.A m.x.length m.c] 26)).alloc (.cells #[Value.string b, .string s] 28)) = V) ∧ Hid (Below w1.heap.size w1 V) ∧ Hid (Cells V w1.heap.size 3 (fun i => (#[Value.string m.name, .int .i64 m.stage, .slice m.A m.x.length m.c] : Array Value).getD i undef)) ∧ Hid (Cells V (w1.heap.size + 1) 2 (fun i => (#[Value.string b, .string s] : Array Value).getD i undef)) ∧ w1.heap.size + 2 ≤ V.heap.size := by
    have z1 : w1.heap.size + 1 = (w1.alloc (.cells #[Value.string m.name, .int .i64 m.stage, .slice m.A m.x.length m.c] 26)).heap.size := by simp
    refine ⟨_, Lib.hid rfl, Lib.hid (((Below.refl _ _).alloc (Nat.le_refl _) _).alloc (by simp) _), Lib.hid ?_, Lib.hid ?_, by simp⟩
    · exact (Cells.newD _ #[Value.string m.name, .int .i64 m.stage, .slice m.A m.x.length m.c] _).alloc _
    · rw [z1]; exact Cells.newD _ #[Value.string b, .string s] _
  rw [hVe.out]
  clear hVe
  have HV := Lib.hid (bgo HB1.out hVb.out)
  have HCn := Lib.hid (Cur.rest (H.out.go HV.out) Hb.out hl (l.length / 2) c (c - l.length / 2) 84)
  go_upto_region 3 with fail
  generalize (if c = l.length / 2 then A else Option.map (fun x => x.add (l.length / 2)) A) = A9 at HCn ⊢
  obtain ⟨U, hUe, hUb, HCU, hgU⟩ : ∃ U : World, Hid (V.alloc (.cells #[.slice A9 (l.length - l.length / 2) (c - l.length / 2), .int .i64 0, .int .u64 0] 84) = U) ∧ Hid (Below V.heap.size V U) ∧ Hid (Cur U V.heap.size 0) ∧ V.heap.size < U.heap.size := ⟨_, Lib.hid rfl, Lib.hid ((Below.refl _ _).alloc (Nat.le_refl _) _), HCn, by simp⟩
  rw [hUe.out]
  clear hUe HCn
  obtain ⟨bm, hbm⟩ : ∃ bm, Hid (w1.heap.size = bm) := ⟨_, Lib.hid rfl⟩
  obtain ⟨g, hge⟩ : ∃ g, Hid (V.heap.size = g) := ⟨_, Lib.hid rfl⟩
  rw [hge.out] at HCU hgU
  rw [hbm.out] at hM hKc hVs
  (try rw [hge.out])
  (try rw [hbm.out])
  have hbe := hbm.out
  have hgel := hge.out
  have hMU := Lib.hid (hM.out.later hUb.out)
  have hKU := Lib.hid (hKc.out.later hUb.out)
  have HWU := Lib.hid (bgo HV.out hUb.out)
  have hRU := Lib.hid (hR.out.later HWU.out)
  have hQU := Lib.hid (hQ.out.later HWU.out)
  have HMK : Hid (∀ W, Chg 0 (w.heap.size + 2) U W → MkOk m b s W) := Lib.hid fun W kc => HOK.out W (((Chg.of_below hVb.out).below hUb.out).trans (kc.mono (Nat.le_refl _) (by omega)))
  clear hM hKc hR hQ
  have u0 := hMU.out.cell (i := 0) (by omega)
  have u1 := hMU.out.cell (i := 1) (by omega)
  have u2 := hMU.out.cell (i := 2) (by omega)
  have u3 := hKU.out.cell (i := 0) (by omega)
  have u4 := hKU.out.cell (i := 1) (by omega)
  have HSF : Hid (Calls Tryz.prog 38 #[.agg #[Value.string m.name, .int .i64 m.stage, .slice m.A m.x.length m.c], .agg #[Value.string b, .string s], .string t, .int .i64 first] U fun e w' => ∃ (r : List Spk) (ok : Bool) (A5 : Option Addr) (c5 : Nat), e = .returned (.tuple #[.slice A5 r.length c5, .bool ok]) ∧ r.length ≤ 63 ∧ RdL w' w'.heap.size A5 2 Spk.enc r ∧ Below U.heap.size U w') := Lib.hid ((sSpokenForC_any m b s t first U (HMK.out U (Chg.refl _ _ _)) Ht.out).mono fun e w' ⟨A5, c5, h1, h2, h3, h4⟩ => ⟨_, _, A5, c5, h1, sayR_le, h3.rd Spk_enc_len, h4⟩)
  go_upto_region 4 with (first | (go_at_call 38; refine HSF.out.mono ?_; rintro e w5 ⟨r, ok, A5, c5, rfl, hr63, hr5, hb5⟩; have HR5 := Lib.hid hr5; have HB5 := Lib.hid hb5; have hz5 := hb5.size; clear hr5 hb5 u0 u1 u2 u3 u4) | fail)
  have HC5 := Lib.hid (HCU.out.later HB5.out)
  have HM5 := Lib.hid (hMU.out.later HB5.out)
  have HK5 := Lib.hid (hKU.out.later HB5.out)
  have HRV := Lib.hid (hRU.out.later HB5.out)
  have HQV := Lib.hid (hQU.out.later HB5.out)
  have HW5 := Lib.hid (bgo HWU.out HB5.out)
  have hgm : bm + 2 ≤ g := by omega
  have u0 := HM5.out.cell (i := 0) (by omega)
  have u1 := HM5.out.cell (i := 1) (by omega)
  have u2 := HM5.out.cell (i := 2) (by omega)
  have u3 := HK5.out.cell (i := 0) (by omega)
  have u4 := HK5.out.cell (i := 1) (by omega)
  have HSp : Hid (∀ W, Below w5.heap.size w5 W → Calls Tryz.prog 95 #[.pointer (some ⟨g, 0, none⟩), .slice A5 r.length c5] W fun e w' => ∃ v, e = .returned v ∧ ∃ (o : List Spk) (A6 : Option Addr) (c6 : Nat), v = .slice A6 o.length c6 ∧ o.length ≤ r.length ∧ o.length ≤ c6 ∧ (∀ W', Chg 0 w5.heap.size w' W' → RdL W' W'.heap.size A6 2 Spk.enc o) ∧ Turn g w5 w') := Lib.hid fun W hb => (spoken_any g 0 r A5 c5 W (HC5.out.later hb) (by omega) (HR5.out.go hb) hr63).mono fun e w' ⟨o, A6, c6, he, h1, h2, h3, _, h5⟩ => ⟨_, he, o, A6, c6, rfl, h1, h2, fun W' kW => h3 W' (kW.mono (Nat.le_refl _) hb.size), (Turn.of hb).trans h5⟩
  go_region_law (first
    | (refine step_callsX (by rfl) 95 (by rfl) #[.pointer (some ⟨g, 0, none⟩), .slice A5 r.length c5] (by go_simp) (HSp.out _ (by repeat (first | exact Below.refl _ _ | refine Below.drew ?_ | refine Below.alloc ?_ (Nat.le_refl _) _))) ?_; rintro v wB ⟨o, A6, c6, rfl, ho1, ho2, hrd, htB⟩; have HTB := Lib.hid htB; have HRd := Lib.hid hrd; have hzB := htB.size; have HMB := Lib.hid (HM5.out.turn htB (.inl (by omega))); have m0 := HMB.out.cell (i := 0) (by omega); have m1 := HMB.out.cell (i := 1) (by omega); have m2 := HMB.out.cell (i := 2) (by omega); have HKB := Lib.hid (HK5.out.turn htB (.inl (by omega))); have k0 := HKB.out.cell (i := 0) (by omega); have k1 := HKB.out.cell (i := 1) (by omega); have hRx := (HRV.out.turn htB (.inl (by omega))); have hQx := (HQV.out.turn htB (.inl (by omega))); have r0 := hRx.cell (i := 0) (by omega); have r1 := hRx.cell (i := 1) (by omega); have r2 := hRx.cell (i := 2) (by omega); have rf0 := hRx.free (i := 0) (by omega); have rf1 := hRx.free (i := 1) (by omega); have rf2 := hRx.free (i := 2) (by omega); have q0 := hQx.cell (i := 0) (by omega); have q1 := hQx.cell (i := 1) (by omega); have qf0 := hQx.free (i := 0) (by omega); have qf1 := hQx.free (i := 1) (by omega); clear hRx hQx; clear htB hrd)
    | fail)
  all_goals
    clear u0 u1 u2 u3 u4
    go_wp2
    refine bodyPost_ret (v := .tuple #[.agg #[Value.string m.name, .int .i64 m.stage, .slice m.A m.x.length m.c], .agg #[Value.string b, .string s], .string t, .int .i64 first, .slice A6 o.length c6]) (by simp [results, Tryz.results33, go_sem, r0, r1, r2, rf0, rf1, rf2, q0, q1, qf0, qf1]) rfl ?_
    clear r0 r1 r2 rf0 rf1 rf2 q0 q1 qf0 qf1 m0 m1 m2 k0 k1
    have key : ∀ w9, Chg w.heap.size (w.heap.size + 2) wB w9 → FwDrawn w (.returned (.tuple #[.agg #[Value.string m.name, .int .i64 m.stage, .slice m.A m.x.length m.c], .agg #[Value.string b, .string s], .string t, .int .i64 first, .slice A6 o.length c6])) w9 := fun w9 kc => by
      refine ⟨m, b, s, t, first, o, A6, c6, rfl, Ht.out, Nat.le_trans ho1 hr63, ho2, fun W' kW => ⟨?_, HRd.out W' ((kc.mono (Nat.zero_le _) (by omega)).trans (kW.mono (Nat.le_refl _) (by omega)))⟩, ?_⟩
      · exact HOK.out W' ((((((Chg.of_below hVb.out).below hUb.out).below HB5.out).free HTB.out (by omega)).trans (kc.mono (Nat.zero_le _) (by omega))).trans (kW.mono (Nat.le_refl _) (by omega)))
      · exact Below.chg (Below.chg (hWb.out.trans (HW5.out.mono hWb.out.size)) HTB.out (by omega) (by omega)) kc (Nat.le_refl _) (by omega)
    refine key _ ?_
    repeat (first | (with_reducible exact Chg.refl _ _ _) | (with_reducible refine Chg.setCell ?_ (by simp) (by simp) _) | (with_reducible refine Chg.drewH ?_))
end Go.Proofs.YtkegbbndmfnolaaGreatDoor
