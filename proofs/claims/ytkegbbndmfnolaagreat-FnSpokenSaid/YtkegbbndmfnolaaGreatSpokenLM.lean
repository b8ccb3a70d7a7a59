import Derived.Test.YtkegbbndmfnolaaGreatMSpokenL26
import Derived.Test.YtkegbbndmfnolaaGreatMSpokenL31
import Derived.Test.YtkegbbndmfnolaaGreatMSpokenL32
import Derived.Test.YtkegbbndmfnolaaGreatMSpokenL01
import Derived.Test.YtkegbbndmfnolaaGreatMSpokenL33
/-
  FnSpoken: the touch is recovered from the spoken words, and the rows are those of the touch between rounds.
-/
namespace Go.Proofs.YtkegbbndmfnolaaGreat
open Go.RowKit Go.ChangeShapes Go.WideShapes Go.Deep
set_option linter.unusedVariables false
set_option linter.unusedSimpArgs false
set_option maxRecDepth 100000

theorem bgo {w w1 w2 : World} (h : Below w.heap.size w w1) (k : Below w1.heap.size w1 w2) : Below w.heap.size w w2 := h.trans (k.mono h.size)
theorem RdL.go {α : Type} {w w' : World} {A : Option Addr} {size : Nat} {enc : α → List Value} {l : List α} (h : RdL w w.heap.size A size enc l) (k : Below w.heap.size w w') : RdL w' w'.heap.size A size enc l := (h.below k (Nat.le_refl _)).more k.size
theorem RdL.ofDrop {α : Type} {w : World} {b g off size : Nat} {enc : α → List Value} {l : List α} (h : RdL w b (some ⟨g, off, none⟩) size enc l) (k : Nat) : RdL w b (some ⟨g, off + k * size, none⟩) size enc (l.drop k) := by
  rcases h with h | ⟨g', off', hA, hg, hc⟩
  · subst h; exact .inl (by simp)
  · simp only [Option.some.injEq, Addr.mk.injEq, and_true] at hA
    obtain ⟨rfl, rfl⟩ := hA
    refine .inr ⟨g, _, rfl, hg, fun i hi j u hu => ?_⟩
    have hi' : k + i < l.length := by rw [List.length_drop] at hi; omega
    rw [List.getElem_drop] at hu
    have := hc (k + i) hi' j u hu
    rw [show off + k * size + (i * size + j) = off + ((k + i) * size + j) by rw [Nat.add_mul]; omega]
    exact this
theorem RdL.ofTake {α : Type} {w : World} {b size : Nat} {A : Option Addr} {enc : α → List Value} {l : List α} (h : RdL w b A size enc l) (k : Nat) : RdL w b A size enc (l.take k) := by
  rcases h with h | ⟨g, off, hA, hg, hc⟩
  · subst h; exact .inl (by simp)
  · refine .inr ⟨g, off, hA, hg, fun i hi j u hu => ?_⟩
    rw [List.length_take] at hi
    rw [List.getElem_take] at hu
    exact hc i (by omega) j u hu
/-- What is known where the rows behind spoken words are given. -/
theorem rsR_facts {m : Mth} {b s : ByteArray} {l : List Spk} (h : (rsR m b s l).2 = true) :
    ∃ (t : ByteArray) (f : Nat), saidR m b s l = (t, (f : Int), true) ∧ callsP m b s ∧ touchP t ∧ 1 ≤ f ∧ f ≤ 20 ∧ inB m.stage 3 8 ∧ t.size * m.x.length ≤ 798 ∧ (rsR m b s l).1 = List.replicate f (roundsS m.stage) ++ rowsL9 m.stage.toNat m.x b s t ++ [roundsS m.stage, roundsS m.stage] := by
  by_cases hc : (saidR m b s l).2.2 = true ∧ (saidR m b s l).2.1.toNat + (saidR m b s l).1.size * m.x.length + 2 ≤ 800
  · by_cases hex : ∃ t first, saidP m b s l t first
    · obtain ⟨t, first, hp⟩ := hex
      have hD := saidR_t hp
      obtain ⟨h1, h2, h3, h4, h5, h6⟩ := hp.1
      obtain ⟨f, rfl⟩ : ∃ f : Nat, first = (f : Int) := ⟨first.toNat, by have := h4.1; omega⟩
      rw [hD] at hc
      simp only [Int.toNat_natCast, true_and] at hc
      refine ⟨t, f, hD, h1, h3, by have := h4.1; omega, by have := h4.2; omega, h1.1.2.stage, by omega, ?_⟩
      rw [rsR_y hD hc]
    · rw [saidR_f (fun t f hp => hex ⟨t, f, hp⟩)] at hc
      simp at hc
  · unfold rsR at h; rw [if_neg hc] at h; cases h
theorem rep_len {f : Nat} {r : ByteArray} {T : List ByteArray} : (List.replicate f r ++ T ++ [r, r]).length = f + T.length + 2 := by simp; omega
theorem rep_mid {f : Nat} {r : ByteArray} {T : List ByteArray} : ((List.replicate f r ++ T ++ [r, r]).drop f).take T.length = T := by
  rw [List.append_assoc, List.drop_append_of_le_length (by simp), List.drop_of_length_le (by simp), List.nil_append, List.take_append_of_le_length (Nat.le_refl _), List.take_length]
theorem rep_fst {f : Nat} {r : ByteArray} {T : List ByteArray} (h : 1 ≤ f) (h0 : 0 < (List.replicate f r ++ T ++ [r, r]).length) : (List.replicate f r ++ T ++ [r, r])[0] = r := by
  rw [List.getElem_append_left (by simp; omega), List.getElem_append_left (by simp; omega), List.getElem_replicate]
theorem rep_lst {f : Nat} {r : ByteArray} {T : List ByteArray} (h0 : f + T.length + 1 < (List.replicate f r ++ T ++ [r, r]).length) : (List.replicate f r ++ T ++ [r, r])[f + T.length + 1] = r := by
  rw [List.getElem_append_right (by simp)]
  simp
theorem said_back {m : Mth} {b s t : ByteArray} {first : Int} {L : List Spk} (h : sayR m b s t first = (L, true)) : saidR m b s L = (t, first, true) ∧ spokenLP L := by
  by_cases hp : sayP m b s t first
  · rw [sayR_t hp] at h
    have e := (Prod.mk.inj h).1
    have hs : saidP m b s L t first := ⟨hp, e⟩
    exact ⟨saidR_t hs, hs.facts.1⟩
  · rw [sayR_f hp] at h; cases (Prod.mk.inj h).2






set_option maxHeartbeats 32000000 in
theorem spokenLaw (w : World) (l : List Int) (A : Option Addr) (c : Nat) (h : RdL w w.heap.size A 1 encByte l) (hl : l.length ≤ 9223372036854775807) (hb : ∀ x ∈ l, Byte_small 9223372036854775807 x) (l' : List Int) (A' : Option Addr) (c' : Nat) (h' : RdL w w.heap.size A' 1 encByte l') (hl' : l'.length ≤ 9223372036854775807) (hb' : ∀ x ∈ l', Byte_small 9223372036854775807 x) :
    Calls Tryz.prog 4 #[.slice A l.length c, .slice A' l'.length c'] w fun e w' => e = .returned (.bool true) ∧ Below w.heap.size w w' := by
  have H := Lib.hid h
  have Hb := Lib.hid hb
  have H' := Lib.hid h'
  have Hb' := Lib.hid hb'
  clear h hb h' hb'
  obtain ⟨N, hN⟩ : ∃ N : Bool, decide ((1048576 : Int) < wrap64 ((l.length : Int) + (l'.length : Int))) = N := ⟨_, rfl⟩
  cases N
  rotate_left
  · go_enter Tryz.func4, Tryz.ntmps4
    go_wp2
    go_ret
    exact ⟨rfl, Below.refl _ _⟩
  go_enter Tryz.func4, Tryz.ntmps4
  go_upto_region 4 with (first | (go_at_call 16; refine (drawSpokenFor_any A c l _ H.out Hb.out hl).mono ?_; rintro e w1 ⟨m, b, s, t, first, rfl, ht, hok1, hb1⟩; have HOK1 := Lib.hid hok1; have HB1 := Lib.hid hb1; clear hok1 hb1) | fail)
  clear hN
  obtain ⟨V1, hVe, hVb1, hM1, hK1⟩ : ∃ V : World, Hid (((w1.alloc (.cells #[Value.string m.name, .int .i64 m.stage, .slice m.A m.x.length m.c] 45)).alloc (.cells #[Value.string b, .string s] 47)) = V) ∧ Hid (Below w1.heap.size w1 V) ∧ Hid (Cells V w1.heap.size 3 (fun i => (#[Value.string m.name, .int .i64 m.stage, .slice m.A m.x.length m.c] : Array Value).getD i undef)) ∧ Hid (Cells V (w1.heap.size + 1) 2 (fun i => (#[Value.string b, .string s] : Array Value).getD i undef)) := by
    have z1 : w1.heap.size + 1 = (w1.alloc (.cells #[Value.string m.name, .int .i64 m.stage, .slice m.A m.x.length m.c] 45)).heap.size := by simp
    refine ⟨_, Lib.hid rfl, Lib.hid (((Below.refl _ _).alloc (Nat.le_refl _) _).alloc (by simp) _), Lib.hid ?_, Lib.hid ?_⟩
    · exact (Cells.newD _ #[Value.string m.name, .int .i64 m.stage, .slice m.A m.x.length m.c] _).alloc _
    · rw [z1]; exact Cells.newD _ #[Value.string b, .string s] _
  rw [hVe.out]
  clear hVe
  have HBV1 : Hid (Below w.heap.size w V1) := Lib.hid (bgo HB1.out hVb1.out)
  have HMK1 : Hid (∀ W, Below V1.heap.size V1 W → MkOk m b s W) := Lib.hid fun W hb => HOK1.out W ((Chg.of_below hVb1.out).below hb)
  clear HOK1
  obtain ⟨D1, hD1⟩ : ∃ D, Hid (sayR m b s t first = D) := ⟨_, Lib.hid rfl⟩
  have hL63 : D1.1.length ≤ 63 := by rw [← hD1.out]; exact sayR_le
  have hI1 : Hid (∀ W, Below V1.heap.size V1 W → Calls Tryz.prog 17 #[.agg #[Value.string m.name, .int .i64 m.stage, .slice m.A m.x.length m.c], .agg #[Value.string b, .string s], .string t, .int .i64 first] W fun e w' => ∃ A c, e = .returned (.tuple #[.slice A D1.1.length c, .bool D1.2]) ∧ D1.1.length ≤ c ∧ RdL w' w'.heap.size A 2 Spk.enc D1.1 ∧ Below W.heap.size W w') := Lib.hid fun W hb => by
    have := iSpokenForC_any m b s t first W (HMK1.out W hb) ht
    rw [hD1.out] at this
    exact this.mono fun e w' ⟨A, c, h1, h2, h3, h4⟩ => ⟨A, c, h1, h2, h3.rd Spk_enc_len, h4⟩
  have hS1 : Hid (∀ W, Below V1.heap.size V1 W → Calls Tryz.prog 18 #[.agg #[Value.string m.name, .int .i64 m.stage, .slice m.A m.x.length m.c], .agg #[Value.string b, .string s], .string t, .int .i64 first] W fun e w' => ∃ A c, e = .returned (.tuple #[.slice A D1.1.length c, .bool D1.2]) ∧ D1.1.length ≤ c ∧ RdL w' w'.heap.size A 2 Spk.enc D1.1 ∧ Below W.heap.size W w') := Lib.hid fun W hb => by
    have := sSpokenForC_any m b s t first W (HMK1.out W hb) ht
    rw [hD1.out] at this
    exact this.mono fun e w' ⟨A, c, h1, h2, h3, h4⟩ => ⟨A, c, h1, h2, h3.rd Spk_enc_len, h4⟩
  obtain ⟨L, okL⟩ := D1
  simp only at hL63 hI1 hS1
  have hUx := hM1.out; have p0 := hUx.cell (i := 0) (by decide); have p1 := hUx.cell (i := 1) (by decide); have p2 := hUx.cell (i := 2) (by decide); clear hUx; have hUx := hK1.out; have p3 := hUx.cell (i := 0) (by decide); have p4 := hUx.cell (i := 1) (by decide); clear hUx
  go_upto_region 6 with (first
    | (go_at_call 17; refine (hI1.out V1 (Below.refl _ _)).mono ?_; rintro e w2 ⟨A2, c2, rfl, hc2, hr2, hb2⟩; have hcap2 := Lib.hid hc2; have R2 := Lib.hid hr2; have K2 := Lib.hid hb2; clear hc2 hr2 hb2; clear p0 p1 p2 p3 p4; have hUx := hM1.out.later K2.out; have p0 := hUx.cell (i := 0) (by decide); have p1 := hUx.cell (i := 1) (by decide); have p2 := hUx.cell (i := 2) (by decide); clear hUx; have hUx := hK1.out.later K2.out; have p3 := hUx.cell (i := 0) (by decide); have p4 := hUx.cell (i := 1) (by decide); clear hUx)
    | (go_at_call 18; refine (hS1.out w2 K2.out).mono ?_; rintro e w3 ⟨A3, c3, rfl, hc3, hr3, hb3⟩; have R3 := Lib.hid hr3; have J3 := Lib.hid hb3; have K3 := Lib.hid (bgo K2.out hb3); clear hc3 hr3 hb3)
    | fail)
  clear p0 p1 p2 p3 p4
  have HBw3 := Lib.hid (bgo HBV1.out K3.out)
  clear hI1 hS1
  go_upto_region 7 with (first | (go_at_call 19; refine (drawTouchSaid_any A' c' l' w3 (H'.out.go HBw3.out) Hb'.out hl').mono ?_; rintro e w4 ⟨u, kb, ks, X, AX, cX, rfl, hX63, hXc, hok4, hb4⟩; have HOK4 := Lib.hid hok4; have J4 := Lib.hid hb4; clear hok4 hb4) | fail)
  obtain ⟨V4, hVe, hVb4, hM4, hK4⟩ : ∃ V : World, Hid (((w4.alloc (.cells #[Value.string u.name, .int .i64 u.stage, .slice u.A u.x.length u.c] 45)).alloc (.cells #[Value.string kb, .string ks] 47)) = V) ∧ Hid (Below w4.heap.size w4 V) ∧ Hid (Cells V w4.heap.size 3 (fun i => (#[Value.string u.name, .int .i64 u.stage, .slice u.A u.x.length u.c] : Array Value).getD i undef)) ∧ Hid (Cells V (w4.heap.size + 1) 2 (fun i => (#[Value.string kb, .string ks] : Array Value).getD i undef)) := by
    have z1 : w4.heap.size + 1 = (w4.alloc (.cells #[Value.string u.name, .int .i64 u.stage, .slice u.A u.x.length u.c] 45)).heap.size := by simp
    refine ⟨_, Lib.hid rfl, Lib.hid (((Below.refl _ _).alloc (Nat.le_refl _) _).alloc (by simp) _), Lib.hid ?_, Lib.hid ?_⟩
    · exact (Cells.newD _ #[Value.string u.name, .int .i64 u.stage, .slice u.A u.x.length u.c] _).alloc _
    · rw [z1]; exact Cells.newD _ #[Value.string kb, .string ks] _
  rw [hVe.out]
  clear hVe
  have J34 : Hid (Below w3.heap.size w3 V4) := Lib.hid (bgo J4.out hVb4.out)
  have HBV4 : Hid (Below w.heap.size w V4) := Lib.hid (bgo HBw3.out J34.out)
  have HMK4 : Hid (∀ W, Below V4.heap.size V4 W → MkOk u kb ks W) := Lib.hid fun W hb => (HOK4.out W ((Chg.of_below hVb4.out).below hb)).1
  have HX4 : Hid (∀ W, Below V4.heap.size V4 W → RdL W W.heap.size AX 2 Spk.enc X) := Lib.hid fun W hb => (HOK4.out W ((Chg.of_below hVb4.out).below hb)).2
  clear HOK4
  obtain ⟨D2, hD2⟩ : ∃ D, Hid (saidR u kb ks X = D) := ⟨_, Lib.hid rfl⟩
  obtain ⟨D3, hD3⟩ : ∃ D, Hid (rsR u kb ks X = D) := ⟨_, Lib.hid rfl⟩
  have hR800 : D3.1.length ≤ 800 := by rw [← hD3.out]; exact rsR_small u kb ks X
  have hI2 : Hid (∀ W, Below V4.heap.size V4 W → Calls Tryz.prog 20 #[.agg #[Value.string u.name, .int .i64 u.stage, .slice u.A u.x.length u.c], .agg #[Value.string kb, .string ks], .slice AX X.length cX] W fun e w' => e = .returned (.tuple #[.string D2.1, .int .i64 D2.2.1, .bool D2.2.2]) ∧ Below W.heap.size W w') := Lib.hid fun W hb => by
    have := iTouchSaid_any u kb ks X AX cX W (HMK4.out W hb) (HX4.out W hb) (by omega) hXc
    rw [hD2.out] at this; exact this
  have hS2 : Hid (∀ W, Below V4.heap.size V4 W → Calls Tryz.prog 21 #[.agg #[Value.string u.name, .int .i64 u.stage, .slice u.A u.x.length u.c], .agg #[Value.string kb, .string ks], .slice AX X.length cX] W fun e w' => e = .returned (.tuple #[.string D2.1, .int .i64 D2.2.1, .bool D2.2.2]) ∧ Below W.heap.size W w') := Lib.hid fun W hb => by
    have := sTouchSaid_any u kb ks X AX cX W (HMK4.out W hb) (HX4.out W hb) (by omega)
    rw [hD2.out] at this; exact this
  have hI3 : Hid (∀ W, Below V4.heap.size V4 W → Calls Tryz.prog 22 #[.agg #[Value.string u.name, .int .i64 u.stage, .slice u.A u.x.length u.c], .agg #[Value.string kb, .string ks], .slice AX X.length cX] W fun e w' => ∃ A c, e = .returned (.tuple #[.slice A D3.1.length c, .bool D3.2]) ∧ D3.1.length ≤ c ∧ OwnL w' W.heap.size w'.heap.size A 1 encString D3.1 ∧ Below W.heap.size W w') := Lib.hid fun W hb => by
    have := iRowsSaidC_any u kb ks X AX cX W (HMK4.out W hb) (HX4.out W hb) (by omega) hXc
    rw [hD3.out] at this; exact this
  have hS3 : Hid (∀ W, Below V4.heap.size V4 W → Calls Tryz.prog 23 #[.agg #[Value.string u.name, .int .i64 u.stage, .slice u.A u.x.length u.c], .agg #[Value.string kb, .string ks], .slice AX X.length cX] W fun e w' => ∃ A c, e = .returned (.tuple #[.slice A D3.1.length c, .bool D3.2]) ∧ OwnL w' W.heap.size w'.heap.size A 1 encString D3.1 ∧ Below W.heap.size W w') := Lib.hid fun W hb => by
    have := sRowsSaid_any u kb ks X AX cX W (HMK4.out W hb) (HX4.out W hb) (by omega)
    rw [hD3.out] at this; exact this
  obtain ⟨st, fr, okS⟩ := D2
  obtain ⟨R, okR⟩ := D3
  simp only at hR800 hI2 hS2 hI3 hS3
  have hUx := hM4.out; have q0 := hUx.cell (i := 0) (by decide); have q1 := hUx.cell (i := 1) (by decide); have q2 := hUx.cell (i := 2) (by decide); clear hUx; have hUx := hK4.out; have q3 := hUx.cell (i := 0) (by decide); have q4 := hUx.cell (i := 1) (by decide); clear hUx
  go_upto_region 11 with (first
    | (go_at_call 20; refine (hI2.out V4 (Below.refl _ _)).mono ?_; rintro e w5 ⟨rfl, hb5⟩; have K5 := Lib.hid hb5; clear hb5; clear q0 q1 q2 q3 q4; have hUx := hM4.out.later K5.out; have q0 := hUx.cell (i := 0) (by decide); have q1 := hUx.cell (i := 1) (by decide); have q2 := hUx.cell (i := 2) (by decide); clear hUx; have hUx := hK4.out.later K5.out; have q3 := hUx.cell (i := 0) (by decide); have q4 := hUx.cell (i := 1) (by decide); clear hUx)
    | (go_at_call 21; refine (hS2.out w5 K5.out).mono ?_; rintro e w6 ⟨rfl, hb6⟩; have K6 := Lib.hid (bgo K5.out hb6); clear hb6; clear q0 q1 q2 q3 q4; have hUx := hM4.out.later K6.out; have q0 := hUx.cell (i := 0) (by decide); have q1 := hUx.cell (i := 1) (by decide); have q2 := hUx.cell (i := 2) (by decide); clear hUx; have hUx := hK4.out.later K6.out; have q3 := hUx.cell (i := 0) (by decide); have q4 := hUx.cell (i := 1) (by decide); clear hUx)
    | (go_at_call 22; refine (hI3.out w6 K6.out).mono ?_; rintro e w7 ⟨A7, c7, rfl, hc7, ho7, hb7⟩; have HC7 := Lib.hid hc7; clear hc7; have R7 := Lib.hid (ho7.rd encString_len); have K7 := Lib.hid (bgo K6.out hb7); clear ho7 hb7; clear q0 q1 q2 q3 q4; have hUx := hM4.out.later K7.out; have q0 := hUx.cell (i := 0) (by decide); have q1 := hUx.cell (i := 1) (by decide); have q2 := hUx.cell (i := 2) (by decide); clear hUx; have hUx := hK4.out.later K7.out; have q3 := hUx.cell (i := 0) (by decide); have q4 := hUx.cell (i := 1) (by decide); clear hUx)
    | (go_at_call 23; refine (hS3.out w7 K7.out).mono ?_; rintro e w8 ⟨A8, c8, rfl, ho8, hb8⟩; have R8 := Lib.hid (ho8.rd encString_len); have J8 := Lib.hid hb8; have K8 := Lib.hid (bgo K7.out hb8); clear ho8 hb8)
    | fail)
  clear q0 q1 q2 q3 q4
  clear hI2 hS2 hI3 hS3
  have J38 := Lib.hid (bgo J34.out K8.out)
  have R28 := Lib.hid (R2.out.go (bgo J3.out J38.out))
  have R38 := Lib.hid (R3.out.go J38.out)
  have R78 := Lib.hid (R7.out.go J8.out)
  have KV18 := Lib.hid (bgo K3.out J38.out)
  go_upto_region 13 with (first
    | (go_at_call 24; refine (qSameSaid_t L A2 A3 c2 c3 w8 R28.out R38.out (by omega)).mono ?_; rintro e w9 ⟨rfl, hb9⟩; have J9 := Lib.hid hb9; clear hb9)
    | (go_at_call 25; refine (qSameS_t R A7 A8 c7 c8 w9 (R78.out.go J9.out) (R8.out.go J9.out) (by omega)).mono ?_; rintro e wA ⟨rfl, hdr⟩; have JA : Hid (Below w8.heap.size w8 wA) := Lib.hid (by obtain ⟨n, rfl⟩ := hdr; exact below_drewN J9.out n); clear hdr)
    | (go_at_call 26; refine (goodSpoken_any X AX cX wA (HX4.out wA (bgo K8.out JA.out)) (by omega)).mono ?_; rintro e wB ⟨rfl, hbB⟩; have JB := Lib.hid (bgo JA.out hbB); clear hbB)
    | (go_at_call 27; refine (sGoodSpoken_any X AX cX wB (HX4.out wB (bgo K8.out JB.out)) (by omega)).mono ?_; rintro e wC ⟨rfl, hbC⟩; have JC := Lib.hid (bgo JB.out hbC); clear hbC)
    | fail)
  have KC := Lib.hid (bgo K8.out JC.out)
  have HBwC := Lib.hid (bgo HBV4.out KC.out)
  have KVC := Lib.hid (bgo KV18.out JC.out)
  have R2C := Lib.hid (R28.out.go JC.out)
  have R7C := Lib.hid (R78.out.go JC.out)
  clear R2 R3 R7 R8 R28 R38 R78
  cases okR
  · cases okL
    · go_wp2
      go_ret
      exact ⟨rfl, HBwC.out⟩
    · have hbk := said_back hD1.out
      have hB1 : Hid (Below V1.heap.size V1 wC) := Lib.hid KVC.out
      have hTS : Hid (Calls Tryz.prog 20 #[.agg #[Value.string m.name, .int .i64 m.stage, .slice m.A m.x.length m.c], .agg #[Value.string b, .string s], .slice A2 L.length c2] wC fun e w' => e = .returned (.tuple #[.string t, .int .i64 first, .bool true]) ∧ Below (wC).heap.size wC w') := Lib.hid (by
        have := iTouchSaid_any m b s L A2 c2 wC (HMK1.out _ hB1.out) (R2C.out) (by omega) hcap2.out
        rw [hbk.1] at this; exact this)
      have eGL := B_t hbk.2
      have hR2e : Hid (RdL wC (wC).heap.size A2 2 Spk.enc L) := Lib.hid R2C.out
      have hBE : Hid (Below w.heap.size w wC) := Lib.hid HBwC.out
      clear hbk
      have hUx := hM1.out.later hB1.out; have p0 := hUx.cell (i := 0) (by decide); have p1 := hUx.cell (i := 1) (by decide); have p2 := hUx.cell (i := 2) (by decide); clear hUx; have hUx := hK1.out.later hB1.out; have p3 := hUx.cell (i := 0) (by decide); have p4 := hUx.cell (i := 1) (by decide); clear hUx
      go_wp2_with (first
        | (go_at_call 20; refine hTS.out.mono ?_; rintro e wy ⟨rfl, hby⟩; have HBy := Lib.hid hby; clear hby)
        | (go_at_call 26; refine (goodSpoken_any L A2 c2 wy (hR2e.out.go HBy.out) (by omega)).mono ?_; rintro e wz ⟨rfl, hbz⟩; have HBz := Lib.hid (bgo hBE.out (bgo HBy.out hbz)); clear hbz)
        | fail)
      go_ret
      exact ⟨rfl, HBz.out⟩
  · obtain ⟨t', f, e1, hcP, htP, hf1, hf20, hst, hle, e3⟩ := rsR_facts (m := u) (b := kb) (s := ks) (l := X) (by rw [hD3.out])
    rw [hD2.out] at e1
    obtain ⟨rfl, rfl, rfl⟩ : st = t' ∧ fr = (f : Int) ∧ okS = true := ⟨(Prod.mk.inj e1).1, (Prod.mk.inj (Prod.mk.inj e1).2).1, (Prod.mk.inj (Prod.mk.inj e1).2).2⟩
    rw [hD3.out] at e3
    simp only at e3
    have HRO : Hid (∀ W, Calls Tryz.prog 29 #[.int .i64 u.stage] W fun e w' => e = .returned (.tuple #[.string (roundsS u.stage), .bool true]) ∧ W = w') := Lib.hid fun W => roundsOf_t u.stage W hst
    have HTR : Hid (∀ W, Below V4.heap.size V4 W → Calls Tryz.prog 28 #[.agg #[Value.string u.name, .int .i64 u.stage, .slice u.A u.x.length u.c], .agg #[Value.string kb, .string ks], .string st] W fun e w' => ∃ A c, e = .returned (.tuple #[.slice A (rowsL9 u.stage.toNat u.x kb ks st).length c, .bool true]) ∧ RdL w' w'.heap.size A 1 encString (rowsL9 u.stage.toNat u.x kb ks st) ∧ Below W.heap.size W w') := Lib.hid fun W hb => (sTouchRows_t u kb ks st W (HMK4.out W hb) hcP htP (by omega)).mono fun e w' ⟨A, c, h1, _, h2, h3⟩ => ⟨A, c, h1, h2.rd encString_len, h3⟩
    obtain ⟨TL, hTL⟩ : ∃ TL, Hid (rowsL9 u.stage.toNat u.x kb ks st = TL) := ⟨_, Lib.hid rfl⟩
    obtain ⟨RS, hRS⟩ : ∃ RS, Hid (roundsS u.stage = RS) := ⟨_, Lib.hid rfl⟩
    rw [hTL.out, hRS.out] at e3
    rw [hTL.out] at HTR
    rw [hRS.out] at HRO
    have E3 := Lib.hid e3
    clear e3 e1 hcP htP hst hle
    have hRl : Hid (R.length = f + TL.length + 2) := Lib.hid (by rw [E3.out]; exact rep_len)
    obtain ⟨TN, hTN⟩ : ∃ TN, Hid (TL.length = TN) := ⟨_, Lib.hid rfl⟩
    obtain ⟨RL, hRL⟩ : ∃ RL, Hid (R.length = RL) := ⟨_, Lib.hid rfl⟩
    rw [hTN.out] at HTR
    rw [hRL.out] at hR800
    have hN : Hid (RL = f + TN + 2) := Lib.hid (by rw [← hRL.out, ← hTN.out]; exact hRl.out)
    obtain ⟨KK, hKK⟩ : ∃ KK, Hid (f + TN = KK) := ⟨_, Lib.hid rfl⟩
    have hUx := hM4.out.later KC.out; have q0 := hUx.cell (i := 0) (by decide); have q1 := hUx.cell (i := 1) (by decide); have q2 := hUx.cell (i := 2) (by decide); clear hUx; have hUx := hK4.out.later KC.out; have q3 := hUx.cell (i := 0) (by decide); have q4 := hUx.cell (i := 1) (by decide); clear hUx
    go_upto_region 15 with (first | (go_at_call 28; refine (HTR.out wC KC.out).mono ?_; rintro e wD ⟨AT, cT, rfl, hrT, hbD⟩; have RT := Lib.hid hrT; have JD := Lib.hid hbD; clear hrT hbD) | fail)
    clear q0 q1 q2 q3 q4
    have q1 : wD.cell? ⟨w4.heap.size, 1, none⟩ = some (.int .i64 u.stage) := (hM4.out.later (bgo KC.out JD.out)).cell (i := 1) (by decide)
    go_upto_region 16 with (first | (go_at_call 29; refine (HRO.out _).mono ?_; rintro e wE ⟨rfl, rfl⟩) | fail)
    clear q1
    have HBwD := Lib.hid (bgo HBwC.out JD.out)
    have KVD := Lib.hid (bgo KVC.out JD.out)
    have R2D := Lib.hid (R2C.out.go JD.out)
    have R7D := Lib.hid (R7C.out.go JD.out)
    clear R2C R7C HTR HRO
    have hRp : 0 < R.length := by rw [hRL.out]; have := hN.out; omega
    obtain ⟨gR, oR, hAR, hgR, hc0⟩ := R7D.out.at hRp
    subst hAR
    have hrl : f + TL.length + 1 < R.length := by rw [hRl.out]; omega
    obtain ⟨gR', oR', hAR', _, hcl⟩ := R7D.out.at hrl
    simp only [Option.some.injEq, Addr.mk.injEq, and_true] at hAR'
    obtain ⟨rfl, rfl⟩ := hAR'
    have r0 : wD.cell? ⟨gR, oR, none⟩ = some (.string RS) := by
      have := hc0 0 _ rfl
      rw [show R[0]'hRp = RS by have := rep_fst (f := f) (r := RS) (T := TL) hf1 (by rw [← E3.out]; exact hRp); simp only [E3.out]; exact this] at this
      simpa using this
    have rl : wD.cell? ⟨gR, oR + (KK + 1), none⟩ = some (.string RS) := by
      have := hcl 0 _ rfl
      rw [show R[f + TL.length + 1]'hrl = RS by have := rep_lst (f := f) (r := RS) (T := TL) (by rw [← E3.out]; exact hrl); simp only [E3.out]; exact this] at this
      rw [Nat.mul_one, Nat.add_zero, hTN.out, hKK.out] at this
      exact this
    have hmid : Hid (RdL wD wD.heap.size (some ⟨gR, oR + f, none⟩) 1 encString TL) := Lib.hid (by
      have h1 := (R7D.out.ofDrop f).ofTake TL.length
      rw [E3.out, rep_mid, Nat.mul_one] at h1
      exact h1)
    have hc7 := HC7.out
    rw [hRL.out] at hc7 ⊢
    have hKf : KK - f = TN := by have := hKK.out; omega
    have hfK : f ≤ KK := by have := hKK.out; omega
    have hKc : KK ≤ c7 := by have := hKK.out; have := hN.out; omega
    have hcf : ¬ c7 = f := by have := hKK.out; have := hN.out; omega
    have hwr : IntKind.i64.wrap ((RL : Int) - 2) = (KK : Int) := by have := hKK.out; have := hN.out; rw [IntWalk.i64_in _ (by omega)]; omega
    have hwl : IntKind.i64.wrap ((RL : Int) - 1) = ((KK : Int) + 1) := by have := hKK.out; have := hN.out; rw [IntWalk.i64_in _ (by omega)]; omega
    have hTN8 : TN ≤ 800 := by have := hN.out; omega
    have hd1 : ((RL : Int) != (f : Int) + (TN : Int) + 2) = false := by have := hN.out; simp; omega
    have hRL1 : KK + 1 < RL := by have := hN.out; have := hKK.out; omega
    have hRL0 : 0 < RL := by omega
    have hqs : Hid (∀ (c : Nat), Calls Tryz.prog 25 #[.slice (some ⟨gR, oR + f, none⟩) TN c, .slice AT TN cT] wD fun e w' => e = .returned (.bool true) ∧ ∃ n, w' = wD.drewN n) := Lib.hid fun c => by
      have := qSameS_t TL (some ⟨gR, oR + f, none⟩) AT c cT wD hmid.out RT.out (by rw [hTN.out]; omega)
      rw [hTN.out] at this; exact this
    go_upto_region 18 with (first
      | (go_at_call 25; refine (hqs.out _).mono ?_; rintro e wF ⟨rfl, hdF⟩; have JF : Hid (Below wD.heap.size wD wF) := Lib.hid (by obtain ⟨n, rfl⟩ := hdF; exact below_drewN (Below.refl _ _) n); have r0F : wF.cell? ⟨gR, oR, none⟩ = some (.string RS) := (by obtain ⟨n, rfl⟩ := hdF; exact r0); have rlF : wF.cell? ⟨gR, oR + (KK + 1), none⟩ = some (.string RS) := (by obtain ⟨n, rfl⟩ := hdF; exact rl); clear hdF)
      | fail)
    clear r0 rl r0F rlF hd1 hwr hwl hKf hfK hKc hcf
    cases okL
    · go_wp2
      go_ret
      exact ⟨rfl, bgo HBwD.out JF.out⟩
    · have hbk := said_back hD1.out
      have hB1 : Hid (Below V1.heap.size V1 wF) := Lib.hid bgo KVD.out JF.out
      have hTS : Hid (Calls Tryz.prog 20 #[.agg #[Value.string m.name, .int .i64 m.stage, .slice m.A m.x.length m.c], .agg #[Value.string b, .string s], .slice A2 L.length c2] wF fun e w' => e = .returned (.tuple #[.string t, .int .i64 first, .bool true]) ∧ Below (wF).heap.size wF w') := Lib.hid (by
        have := iTouchSaid_any m b s L A2 c2 wF (HMK1.out _ hB1.out) (R2D.out.go JF.out) (by omega) hcap2.out
        rw [hbk.1] at this; exact this)
      have eGL := B_t hbk.2
      have hR2e : Hid (RdL wF (wF).heap.size A2 2 Spk.enc L) := Lib.hid R2D.out.go JF.out
      have hBE : Hid (Below w.heap.size w wF) := Lib.hid bgo HBwD.out JF.out
      clear hbk
      have hUx := hM1.out.later hB1.out; have p0 := hUx.cell (i := 0) (by decide); have p1 := hUx.cell (i := 1) (by decide); have p2 := hUx.cell (i := 2) (by decide); clear hUx; have hUx := hK1.out.later hB1.out; have p3 := hUx.cell (i := 0) (by decide); have p4 := hUx.cell (i := 1) (by decide); clear hUx
      go_wp2_with (first
        | (go_at_call 20; refine hTS.out.mono ?_; rintro e wy ⟨rfl, hby⟩; have HBy := Lib.hid hby; clear hby)
        | (go_at_call 26; refine (goodSpoken_any L A2 c2 wy (hR2e.out.go HBy.out) (by omega)).mono ?_; rintro e wz ⟨rfl, hbz⟩; have HBz := Lib.hid (bgo hBE.out (bgo HBy.out hbz)); clear hbz)
        | fail)
      go_ret
      exact ⟨rfl, HBz.out⟩
namespace fnSpoken
open Go.ChangeShapes Go.WideShapes Go.ChangeAt Go.RowKit Go.Deep
open Go.ChangeMaps (open_string shut_string)
theorem own : ownKnob Tryz.prog.godebug = none := by kernel_rfl
theorem laid : laidOutB Tryz.prog = true := by kernel_rfl
theorem reads : Tryz.f4.params.toList.all (fun t => Tryz.prog.readableRec t && decide (t < Tryz.prog.types.size)) = true := by kernel_rfl
set_option maxRecDepth 100000 in
theorem lifted (os : Os) (started : os.Started) (H : Type) (enc : TypeId × Value → H) :
    ReturnsInHanded {} Tryz.checked os 4 .any (Rows.fnSpokenSpec.pre6 enc Tryz.prog Tryz.f4 Rows.fnSpokenRow.domain false) (Rows.fnSpokenSpec.post enc Tryz.prog Tryz.f4 false true false false) := by
  refine returnsInHanded_of_change (C := Tryz.checked) own started (by kernel_rfl) Tryz.func4
    (ChangeSpec.witness6 (enc := enc) (C := Tryz.checked) false ⟨#[], #[.slice none 0 0, .slice none 0 0], []⟩ 8 (by kernel_rfl) (by kernel_rfl) (by kernel_rfl) (by kernel_rfl)) ?_
  intro W base args ds gs before hval0 hW hcnd _
  have hval : ∀ (j : Nat) t v, Tryz.f4.params[j]? = some t → args[j]? = some v → Value.okWide Tryz.prog W .any base t v := hval0
  have hW' := hW
  obtain ⟨p, q, hA0, hV, rfl, hfz, hnd⟩ := hW
  have hA : DataW.TrodAll enc Tryz.prog W 0 (fun _ => true) true Tryz.f4.params.toList args.toList ds p := hA0
  rw [Tryz.params4] at hA hval
  obtain ⟨rfl, rfl⟩ := trodVars_none hV
  have hlt : ∀ x ∈ p, x.block < W.heap.size := fun x hx => by simpa using hW'.lt x (List.mem_append.2 (.inl hx))
  clear hA0 hval0
  obtain ⟨v0, vs0, d0, ds0, p0, q0, hargs, rfl, rfl, h0, r0⟩ := trodAll_cons hA
  obtain ⟨v1, vs1, d1, ds1, p1, q1, rfl, rfl, rfl, h1, r1⟩ := trodAll_cons r0
  obtain ⟨rfl, rfl, rfl⟩ := trodAll_nil r1
  obtain rfl : args = #[v0, v1] := by cases args; simp_all
  clear hargs
  obtain ⟨A0, a0, c0, rfl, y0, x0, z0⟩ := open_list Tryz.underlying22 1 (by kernel_rfl) (by omega) encByte _ Byte_el (hval 0 22 v0 rfl rfl) h0
  obtain ⟨A1, a1, c1, rfl, y1, x1, z1⟩ := open_list Tryz.underlying22 1 (by kernel_rfl) (by omega) encByte _ Byte_el (hval 1 22 v1 rfl rfl) h1
  refine (spokenLaw W a0 A0 c0 x0 (by unfold maxLen at y0; omega) z0 a1 A1 c1 x1 (by unfold maxLen at y1; omega) z1).mono fun e W' ⟨he, hg⟩ => ?_
  subst he
  exact ⟨_, rfl, law_post laid reads rfl Tryz.underlying4 rfl rfl hW' hg⟩
theorem over : Rows.fnSpokenRow.holds Tryz.pinned (OpenSpec.ofChange Rows.fnSpokenSpec) :=
  OpenClaim.holds_of_wide 4 Tryz.f4 rfl rfl rfl rfl rfl rfl rfl ⟨rfl, rfl, rfl, rfl, rfl⟩ rfl rfl rfl rfl rfl (by kernel_rfl) Tryz.func4 facts
    (of_decide_eq_true (by kernel_rfl)) (by unfold Func.isWrapper; first | (rw [if_pos (by decide +kernel)]; kernel_rfl) | (rw [if_neg (by decide +kernel)]; exact ⟨rfl, rfl⟩))
    (fun os started H enc _ => lifted os started H enc)
theorem proved : Rows.FnSpokenSaid := over
end fnSpoken
end Go.Proofs.YtkegbbndmfnolaaGreat
