import Derived.Test.YtkegbbndmfnolaaGreatDoorMHeardL32
import Derived.Test.YtkegbbndmfnolaaGreatDoorMHeardL34
import Derived.Test.YtkegbbndmfnolaaGreatDoorMHeardL01
import Derived.Test.YtkegbbndmfnolaaGreatDoorMHeardL35
/-
  FnHeard: the text of spoken words is read back, and the first deviation is told. The tied card.
-/
namespace Go.Proofs.YtkegbbndmfnolaaGreatDoor
open Go.RowKit Go.ChangeShapes Go.WideShapes Go.Deep
set_option linter.unusedVariables false
set_option linter.unusedSimpArgs false
set_option maxRecDepth 100000

open Classical in
/-- What ReadSpoken answers. -/
noncomputable def rdR (s : ByteArray) : List Spk × Bool := if h : ∃ l, TxtOf l s then (h.choose, true) else ([], false)
theorem rdR_t {s : ByteArray} {l : List Spk} (h : TxtOf l s) : rdR s = (l, true) := by
  have hex : ∃ l, TxtOf l s := ⟨l, h⟩
  unfold rdR
  rw [dif_pos hex]
  rw [hex.choose_spec.uniq h]
theorem rdR_f {s : ByteArray} (h : ∀ l, ¬ TxtOf l s) : rdR s = ([], false) := by
  unfold rdR; rw [dif_neg (fun ⟨l, hl⟩ => h l hl)]
theorem rdR_len (s : ByteArray) : (rdR s).1.length ≤ 63 := by
  by_cases h : ∃ l, TxtOf l s
  · obtain ⟨l, hl⟩ := h; rw [rdR_t hl]; exact hl.1.1
  · rw [rdR_f (fun l hl => h ⟨l, hl⟩)]; exact Nat.zero_le _
theorem RsPost.rd {s : ByteArray} {w w' : World} {e : Ending} (h : RsPost s w e w') : ∃ A c, e = .returned (.tuple #[.slice A (rdR s).1.length c, .bool (rdR s).2]) ∧ RdL w' w'.heap.size A 2 Spk.enc (rdR s).1 ∧ Below w.heap.size w w' := by
  obtain ⟨⟨l', A, c, h1, rfl, ho⟩ | ⟨h1, rfl⟩, hb⟩ := h
  · rw [rdR_t h1]; exact ⟨A, c, rfl, ho.rd Spk_enc_len, hb⟩
  · rw [rdR_f h1]; exact ⟨none, 0, rfl, .inl rfl, hb⟩
open Classical in
/-- What SaidAt answers. -/
noncomputable def satR (l : List Spk) (r : Int) : List ByteArray × Bool := if spokenLP l then (saidL l r, true) else ([], false)
theorem satR_t {l : List Spk} {r : Int} (h : spokenLP l) : satR l r = (saidL l r, true) := if_pos h
theorem satR_f {l : List Spk} {r : Int} (h : ¬ spokenLP l) : satR l r = ([], false) := if_neg h
theorem satR_len (l : List Spk) (r : Int) : (satR l r).1.length ≤ l.length := by
  by_cases h : spokenLP l
  · rw [satR_t h]; exact saidL_len l r
  · rw [satR_f h]; exact Nat.zero_le _

theorem iSat_r (l : List Spk) (A : Option Addr) (c : Nat) (row : Int) (w : World) (h : RdL w w.heap.size A 2 Spk.enc l) (hl : l.length ≤ 1048576) :
    Calls Tryz.prog 31 #[.slice A l.length c, .int .i64 row] w fun e w' => ∃ A' c', e = .returned (.tuple #[.slice A' (satR l row).1.length c', .bool (satR l row).2]) ∧ RdL w' w'.heap.size A' 1 encString (satR l row).1 ∧ Below w.heap.size w w' := by
  by_cases hp : spokenLP l
  · rw [satR_t hp]; exact (iSaid_t l A c row w h hl hp).mono fun e w' ⟨A', c', h1, h2, h3⟩ => ⟨A', c', h1, h2.rd encString_len, h3⟩
  · rw [satR_f hp]; exact (iSaid_f l A c row w h hl hp).mono fun e w' ⟨h1, h2⟩ => ⟨none, 0, h1, .inl rfl, h2⟩
theorem sSat_r (l : List Spk) (A : Option Addr) (c : Nat) (row : Int) (w : World) (h : RdL w w.heap.size A 2 Spk.enc l) (hl : l.length ≤ 1048576) :
    Calls Tryz.prog 32 #[.slice A l.length c, .int .i64 row] w fun e w' => ∃ A' c', e = .returned (.tuple #[.slice A' (satR l row).1.length c', .bool (satR l row).2]) ∧ RdL w' w'.heap.size A' 1 encString (satR l row).1 ∧ Below w.heap.size w w' := by
  by_cases hp : spokenLP l
  · rw [satR_t hp]; exact (sSaid_t l A c row w h hl hp).mono fun e w' ⟨A', c', h1, h2, h3⟩ => ⟨A', c', h1, h2.rd encString_len, h3⟩
  · rw [satR_f hp]; exact (sSaid_f l A c row w h hl hp).mono fun e w' ⟨h1, h2⟩ => ⟨none, 0, h1, .inl rfl, h2⟩
/-- What is known where a deviation is told. -/
theorem fwR_facts {m : Mth} {b s t : ByteArray} {first : Int} {l : List Spk} (h : (fwR m b s t first l).2 = true) :
    ∃ k : Nat, (fwR m b s t first l).1 = (k : Int) ∧ (sayR m b s t first).2 = true ∧ k ≤ (sayR m b s t first).1.length ∧ k ≤ l.length ∧ (sayR m b s t first).1.take k = l.take k := by
  unfold fwR at h ⊢
  by_cases hc : (sayR m b s t first).2 = true ∧ spokenLP l
  · rw [if_pos hc] at h ⊢
    generalize (sayR m b s t first).1 = a at *
    by_cases hex : ∃ k : Nat, (∀ j, j < k → a[j]? = l[j]?) ∧ a[k]? ≠ l[k]?
    · obtain ⟨k, h1, h2⟩ := hex
      rw [fstDiff_at h1 h2]
      have ha : k ≤ a.length := by
        refine Nat.le_of_not_lt fun hlt => ?_
        have h3 := h1 a.length hlt
        rw [List.getElem?_eq_none (Nat.le_refl _)] at h3
        have h4 : l.length ≤ a.length := by
          refine Nat.le_of_not_lt fun hx => ?_
          rw [List.getElem?_eq_getElem hx] at h3; cases h3
        exact h2 (by rw [List.getElem?_eq_none (by omega), List.getElem?_eq_none (by omega)])
      have hl : k ≤ l.length := by
        refine Nat.le_of_not_lt fun hlt => ?_
        have h3 := h1 l.length hlt
        rw [List.getElem?_eq_none (l := l) (Nat.le_refl _)] at h3
        have h4 : a.length ≤ l.length := by
          refine Nat.le_of_not_lt fun hx => ?_
          rw [List.getElem?_eq_getElem hx] at h3; cases h3
        exact h2 (by rw [List.getElem?_eq_none (by omega), List.getElem?_eq_none (by omega)])
      refine ⟨k, rfl, hc.1, ha, hl, ?_⟩
      apply List.ext_getElem?
      intro j
      by_cases hj : j < k
      · rw [List.getElem?_take_of_lt hj, List.getElem?_take_of_lt hj]; exact h1 j hj
      · rw [List.getElem?_eq_none (by simp; omega), List.getElem?_eq_none (by simp; omega)]
    · exfalso
      unfold fstDiff at h
      rw [dif_neg hex] at h; cases h
  · rw [if_neg hc] at h; cases h


theorem RdL.ofTake {α : Type} {w : World} {b size : Nat} {A : Option Addr} {enc : α → List Value} {l : List α} (h : RdL w b A size enc l) (k : Nat) : RdL w b A size enc (l.take k) := by
  rcases h with h | ⟨g, off, hA, hg, hc⟩
  · subst h; exact .inl (by simp)
  · refine .inr ⟨g, off, hA, hg, fun i hi j u hu => ?_⟩
    rw [List.length_take] at hi
    rw [List.getElem_take] at hu
    exact hc i (by omega) j u hu



set_option maxHeartbeats 32000000 in
theorem heardLaw (w : World) (l : List Int) (A : Option Addr) (c : Nat) (h : RdL w w.heap.size A 1 encByte l) (hl : l.length ≤ 9223372036854775807) (hb : ∀ x ∈ l, Byte_small 9223372036854775807 x) (l' : List Int) (A' : Option Addr) (c' : Nat) (h' : RdL w w.heap.size A' 1 encByte l') (hl' : l'.length ≤ 9223372036854775807) (hb' : ∀ x ∈ l', Byte_small 9223372036854775807 x) (htab : TabM w) :
    Calls Tryz.prog 4 #[.slice A l.length c, .slice A' l'.length c'] w fun e w' => e = .returned (.bool true) ∧ Below w.heap.size w w' := by
  have H := Lib.hid h
  have Hb := Lib.hid hb
  have H' := Lib.hid h'
  have Hb' := Lib.hid hb'
  have HT := Lib.hid htab
  clear h hb h' hb' htab
  obtain ⟨N, hN⟩ : ∃ N : Bool, decide ((1048576 : Int) < wrap64 ((l.length : Int) + (l'.length : Int))) = N := ⟨_, rfl⟩
  cases N
  rotate_left
  · go_enter Tryz.func4, Tryz.ntmps4
    go_wp2
    go_ret
    exact ⟨rfl, Below.refl _ _⟩
  go_enter Tryz.func4, Tryz.ntmps4
  go_upto_region 4 with (first | (go_at_call 24; refine (drawSpokenText_any A c l _ H.out Hb.out hl).mono ?_; rintro e w1 ⟨l1, A1, c1, rfl, hl63, hlc, hr1, hb1⟩; have R1 := Lib.hid hr1; have HB1 := Lib.hid hb1; clear hr1 hb1) | fail)
  clear hN
  obtain ⟨D1, hD1⟩ : ∃ D, Hid (stR l1 = D) := ⟨_, Lib.hid rfl⟩
  have hS1 : D1.1.size ≤ 4032 := by rw [← hD1.out]; exact stR_size l1
  have hI1 : Hid (∀ W, Below w1.heap.size w1 W → Calls Tryz.prog 25 #[.slice A1 l1.length c1] W fun e w' => e = .returned (.tuple #[.string D1.1, .bool D1.2]) ∧ Below W.heap.size W w') := Lib.hid fun W hb => by
    have := iSpokenText_r l1 A1 c1 W (R1.out.go hb) (by omega) (HT.out.1.later (bgo HB1.out hb))
    rw [hD1.out] at this; exact this
  have hSS1 : Hid (∀ W, Below w1.heap.size w1 W → Calls Tryz.prog 26 #[.slice A1 l1.length c1] W fun e w' => e = .returned (.tuple #[.string D1.1, .bool D1.2]) ∧ Below W.heap.size W w') := Lib.hid fun W hb => by
    have := sSpokenText_r l1 A1 c1 W (R1.out.go hb) (by omega)
    rw [hD1.out] at this; exact this
  obtain ⟨S1, ok1⟩ := D1
  simp only at hS1 hI1 hSS1
  go_upto_region 7 with (first
    | (go_at_call 25; refine (hI1.out w1 (Below.refl _ _)).mono ?_; rintro e w2 ⟨rfl, hb2⟩; have K2 := Lib.hid hb2; clear hb2)
    | (go_at_call 26; refine (hSS1.out w2 K2.out).mono ?_; rintro e w3 ⟨rfl, hb3⟩; have K3 := Lib.hid (bgo K2.out hb3); have HBw3 := Lib.hid (bgo HB1.out (bgo K2.out hb3)); clear hb3)
    | (go_at_call 27; refine (drawReadSpoken_any A' c' l' w3 (H'.out.go HBw3.out) Hb'.out hl').mono ?_; rintro e w4 ⟨x, rfl, hxs, hb4⟩; have HBw4 := Lib.hid (bgo HBw3.out hb4); have K4 := Lib.hid (bgo K3.out hb4); clear hb4)
    | fail)
  clear hI1 hSS1
  obtain ⟨D2, hD2⟩ : ∃ D, Hid (rdR x = D) := ⟨_, Lib.hid rfl⟩
  have hRl : D2.1.length ≤ 63 := by rw [← hD2.out]; exact rdR_len x
  have hI2 : Hid (∀ W, Below w.heap.size w W → Calls Tryz.prog 28 #[.string x] W fun e w' => ∃ A c, e = .returned (.tuple #[.slice A D2.1.length c, .bool D2.2]) ∧ RdL w' w'.heap.size A 2 Spk.enc D2.1 ∧ Below W.heap.size W w') := Lib.hid fun W hb => by
    refine (iReadSpoken_any x W hxs (HT.out.2.later hb)).mono fun e w' hp => ?_
    have := hp.rd
    rw [hD2.out] at this; exact this
  have hSS2 : Hid (∀ W, Calls Tryz.prog 29 #[.string x] W fun e w' => ∃ A c, e = .returned (.tuple #[.slice A D2.1.length c, .bool D2.2]) ∧ RdL w' w'.heap.size A 2 Spk.enc D2.1 ∧ Below W.heap.size W w') := Lib.hid fun W => by
    refine (sReadSpoken_any x W hxs).mono fun e w' hp => ?_
    have := hp.rd
    rw [hD2.out] at this; exact this
  obtain ⟨RR, ok2⟩ := D2
  simp only at hRl hI2 hSS2
  go_upto_region 10 with (first
    | (go_at_call 28; refine (hI2.out w4 HBw4.out).mono ?_; rintro e w5 ⟨A5, c5, rfl, hr5, hb5⟩; have R5 := Lib.hid hr5; have J5 := Lib.hid hb5; clear hr5 hb5)
    | (go_at_call 29; refine (hSS2.out w5).mono ?_; rintro e w6 ⟨A6, c6, rfl, hr6, hb6⟩; have R6 := Lib.hid hr6; have R56 := Lib.hid (R5.out.go hb6); have HBw6 := Lib.hid (bgo HBw4.out (bgo J5.out hb6)); have K6 := Lib.hid (bgo K4.out (bgo J5.out hb6)); clear hr6 hb6)
    | (go_at_call 30; refine (drawSaidAt_any A c l w6 (H.out.go HBw6.out) Hb.out hl).mono ?_; rintro e w7 ⟨a, A7, c7, row, rfl, ha63, hac, hr7, hb7⟩; have R7 := Lib.hid hr7; have J7 := Lib.hid hb7; have HBw7 := Lib.hid (bgo HBw6.out hb7); have K7 := Lib.hid (bgo K6.out hb7); clear hr7 hb7)
    | fail)
  clear hI2 hSS2
  obtain ⟨D3, hD3⟩ : ∃ D, Hid (satR a row = D) := ⟨_, Lib.hid rfl⟩
  have hWl : D3.1.length ≤ 63 := by rw [← hD3.out]; exact Nat.le_trans (satR_len a row) ha63
  have hI3 : Hid (∀ W, Below w7.heap.size w7 W → Calls Tryz.prog 31 #[.slice A7 a.length c7, .int .i64 row] W fun e w' => ∃ A c, e = .returned (.tuple #[.slice A D3.1.length c, .bool D3.2]) ∧ RdL w' w'.heap.size A 1 encString D3.1 ∧ Below W.heap.size W w') := Lib.hid fun W hb => by
    have := iSat_r a A7 c7 row W (R7.out.go hb) (by omega)
    rw [hD3.out] at this; exact this
  have hSS3 : Hid (∀ W, Below w7.heap.size w7 W → Calls Tryz.prog 32 #[.slice A7 a.length c7, .int .i64 row] W fun e w' => ∃ A c, e = .returned (.tuple #[.slice A D3.1.length c, .bool D3.2]) ∧ RdL w' w'.heap.size A 1 encString D3.1 ∧ Below W.heap.size W w') := Lib.hid fun W hb => by
    have := sSat_r a A7 c7 row W (R7.out.go hb) (by omega)
    rw [hD3.out] at this; exact this
  obtain ⟨WW, ok3⟩ := D3
  simp only at hWl hI3 hSS3
  go_upto_region 13 with (first
    | (go_at_call 31; refine (hI3.out w7 (Below.refl _ _)).mono ?_; rintro e w8 ⟨A8, c8, rfl, hr8, hb8⟩; have R8 := Lib.hid hr8; have J8 := Lib.hid hb8; clear hr8 hb8)
    | (go_at_call 32; refine (hSS3.out w8 J8.out).mono ?_; rintro e w9 ⟨A9, c9, rfl, hr9, hb9⟩; have R9 := Lib.hid hr9; have R89 := Lib.hid (R8.out.go hb9); have J79 := Lib.hid (bgo J8.out hb9); have HBw9 := Lib.hid (bgo HBw7.out (bgo J8.out hb9)); have K9 := Lib.hid (bgo K7.out (bgo J8.out hb9)); clear hr9 hb9)
    | (go_at_call 33; refine (drawFirstWrong_any A' c' l' w9 (H'.out.go HBw9.out) Hb'.out hl').mono ?_; rintro e wA ⟨m, b, s, t, first, hd, AH, cH, rfl, ht, hh63, hhc, hok, hbA⟩; have HOK := Lib.hid hok; have JA := Lib.hid hbA; clear hok hbA)
    | fail)
  clear hI3 hSS3
  obtain ⟨V, hVe, hVb, hM, hK⟩ : ∃ V : World, Hid (((wA.alloc (.cells #[Value.string m.name, .int .i64 m.stage, .slice m.A m.x.length m.c] 26)).alloc (.cells #[Value.string b, .string s] 28)) = V) ∧ Hid (Below wA.heap.size wA V) ∧ Hid (Cells V wA.heap.size 3 (fun i => (#[Value.string m.name, .int .i64 m.stage, .slice m.A m.x.length m.c] : Array Value).getD i undef)) ∧ Hid (Cells V (wA.heap.size + 1) 2 (fun i => (#[Value.string b, .string s] : Array Value).getD i undef)) := by
    have z1 : wA.heap.size + 1 = (wA.alloc (.cells #[Value.string m.name, .int .i64 m.stage, .slice m.A m.x.length m.c] 26)).heap.size := by simp
    refine ⟨_, Lib.hid rfl, Lib.hid (((Below.refl _ _).alloc (Nat.le_refl _) _).alloc (by simp) _), Lib.hid ?_, Lib.hid ?_⟩
    · exact (Cells.newD _ #[Value.string m.name, .int .i64 m.stage, .slice m.A m.x.length m.c] _).alloc _
    · rw [z1]; exact Cells.newD _ #[Value.string b, .string s] _
  rw [hVe.out]
  clear hVe
  have J9V := Lib.hid (bgo JA.out hVb.out)
  have HBV := Lib.hid (bgo HBw9.out J9V.out)
  have KV_ := Lib.hid (bgo K9.out J9V.out)
  have HMK : Hid (∀ W, Below V.heap.size V W → MkOk m b s W) := Lib.hid fun W hb => (HOK.out W ((Chg.of_below hVb.out).below hb)).1
  have HHd : Hid (∀ W, Below V.heap.size V W → RdL W W.heap.size AH 2 Spk.enc hd) := Lib.hid fun W hb => (HOK.out W ((Chg.of_below hVb.out).below hb)).2
  clear HOK
  obtain ⟨D4, hD4⟩ : ∃ D, Hid (fwR m b s t first hd = D) := ⟨_, Lib.hid rfl⟩
  have hI4 : Hid (∀ W, Below V.heap.size V W → Calls Tryz.prog 34 #[.agg #[Value.string m.name, .int .i64 m.stage, .slice m.A m.x.length m.c], .agg #[Value.string b, .string s], .string t, .int .i64 first, .slice AH hd.length cH] W fun e w' => e = .returned (.tuple #[.int .i64 D4.1, .bool D4.2]) ∧ Below W.heap.size W w') := Lib.hid fun W hb => by
    have := iFirstWrong_any m b s t first hd AH cH W (HMK.out W hb) ht (HHd.out W hb) (by omega)
    rw [hD4.out] at this; exact this
  have hSS4 : Hid (∀ W, Below V.heap.size V W → Calls Tryz.prog 35 #[.agg #[Value.string m.name, .int .i64 m.stage, .slice m.A m.x.length m.c], .agg #[Value.string b, .string s], .string t, .int .i64 first, .slice AH hd.length cH] W fun e w' => e = .returned (.tuple #[.int .i64 D4.1, .bool D4.2]) ∧ Below W.heap.size W w') := Lib.hid fun W hb => by
    have := sFirstWrong_any m b s t first hd AH cH W (HMK.out W hb) ht (HHd.out W hb) (by omega)
    rw [hD4.out] at this; exact this
  obtain ⟨fi, ok4⟩ := D4
  simp only at hI4 hSS4
  have hUx := hM.out; have p0 := hUx.cell (i := 0) (by decide); have p1 := hUx.cell (i := 1) (by decide); have p2 := hUx.cell (i := 2) (by decide); clear hUx; have hUx := hK.out; have p3 := hUx.cell (i := 0) (by decide); have p4 := hUx.cell (i := 1) (by decide); clear hUx
  go_upto_region 15 with (first
    | (go_at_call 34; refine (hI4.out V (Below.refl _ _)).mono ?_; rintro e wB ⟨rfl, hbB⟩; have JB := Lib.hid hbB; clear hbB; clear p0 p1 p2 p3 p4; have hUx := hM.out.later JB.out; have p0 := hUx.cell (i := 0) (by decide); have p1 := hUx.cell (i := 1) (by decide); have p2 := hUx.cell (i := 2) (by decide); clear hUx; have hUx := hK.out.later JB.out; have p3 := hUx.cell (i := 0) (by decide); have p4 := hUx.cell (i := 1) (by decide); clear hUx)
    | (go_at_call 35; refine (hSS4.out wB JB.out).mono ?_; rintro e wC ⟨rfl, hbC⟩; have JC := Lib.hid (bgo JB.out hbC); clear hbC)
    | fail)
  clear p0 p1 p2 p3 p4
  clear hI4 hSS4
  have J9C := Lib.hid (bgo J9V.out JC.out)
  have J6C := Lib.hid (bgo (bgo J7.out J79.out) J9C.out)
  have R5C := Lib.hid (R56.out.go J6C.out)
  have R6C := Lib.hid (R6.out.go J6C.out)
  have R8C := Lib.hid (R89.out.go J9C.out)
  have R9C := Lib.hid (R9.out.go J9C.out)
  have KVC := Lib.hid JC.out
  have J1C := Lib.hid (bgo KV_.out JC.out)
  go_upto_region 17 with (first
    | (go_at_call 36; refine (qSameSaid_t RR A5 A6 c5 c6 wC R5C.out R6C.out (by omega)).mono ?_; rintro e wD ⟨rfl, hbD⟩; have JD := Lib.hid hbD; clear hbD)
    | (go_at_call 37; refine (qSameS_t WW A8 A9 c8 c9 wD (R8C.out.go JD.out) (R9C.out.go JD.out) (by omega)).mono ?_; rintro e wE ⟨rfl, hdr⟩; have JE : Hid (Below wC.heap.size wC wE) := Lib.hid (by obtain ⟨n, rfl⟩ := hdr; exact below_drewN JD.out n); clear hdr)
    | fail)
  have KVE := Lib.hid (bgo KVC.out JE.out)
  have HBwE := Lib.hid (bgo HBV.out KVE.out)
  have R1E := Lib.hid (R1.out.go (bgo J1C.out JE.out))
  clear R1 R5 R6 R8 R9 R5C R6C R8C R9C R56 R89
  cases ok4
  · cases ok1
    · go_wp2
      go_ret
      exact ⟨rfl, HBwE.out⟩
    · have hrb : Hid (rdR S1 = (l1, true)) := Lib.hid (by
        have hp : spokenLP l1 := by
          refine Classical.byContradiction fun hn => ?_
          have := hD1.out; rw [stR_f hn] at this; cases (Prod.mk.inj this).2
        have e := hD1.out
        rw [stR_t hp] at e
        exact rdR_t ⟨hp, (Prod.mk.inj e).1⟩)
      have hBE : Hid (Below w.heap.size w wE) := Lib.hid HBwE.out
      have hR1e : Hid (RdL wE (wE).heap.size A1 2 Spk.enc l1) := Lib.hid R1E.out
      have hRS : Hid (Calls Tryz.prog 28 #[.string S1] wE fun e w' => ∃ A c, e = .returned (.tuple #[.slice A l1.length c, .bool true]) ∧ RdL w' w'.heap.size A 2 Spk.enc l1 ∧ Below (wE).heap.size wE w') := Lib.hid (by
        refine (iReadSpoken_any S1 wE (by omega) (HT.out.2.later hBE.out)).mono fun e w' hp => ?_
        have := hp.rd
        rw [hrb.out] at this; exact this)
      go_wp2_with (first
        | (go_at_call 28; refine hRS.out.mono ?_; rintro e wy ⟨Ay, cy, rfl, hry, hby⟩; have HRy := Lib.hid hry; have HBy := Lib.hid hby; clear hry hby)
        | (go_at_call 36; refine (qSameSaid_t l1 Ay A1 cy c1 wy HRy.out (hR1e.out.go HBy.out) (by omega)).mono ?_; rintro e wz ⟨rfl, hbz⟩; have HBz := Lib.hid (bgo hBE.out (bgo HBy.out hbz)); clear hbz)
        | fail)
      go_ret
      exact ⟨rfl, HBz.out⟩
  · obtain ⟨k, e1, e2, hk1, hk2, hk3⟩ := fwR_facts (m := m) (b := b) (s := s) (t := t) (first := first) (l := hd) (by rw [hD4.out])
    rw [hD4.out] at e1
    simp only at e1
    subst e1
    have hAL63 : (sayR m b s t first).1.length ≤ 63 := sayR_le
    obtain ⟨D5, hD5⟩ : ∃ D, Hid (sayR m b s t first = D) := ⟨_, Lib.hid rfl⟩
    have hSF : Hid (Calls Tryz.prog 38 #[.agg #[Value.string m.name, .int .i64 m.stage, .slice m.A m.x.length m.c], .agg #[Value.string b, .string s], .string t, .int .i64 first] wE fun e w' => ∃ A c, e = .returned (.tuple #[.slice A D5.1.length c, .bool D5.2]) ∧ D5.1.length ≤ c ∧ RdL w' w'.heap.size A 2 Spk.enc D5.1 ∧ Below wE.heap.size wE w') := Lib.hid (by
      have := sSpokenForC_any m b s t first wE (HMK.out wE KVE.out) ht
      rw [hD5.out] at this
      exact this.mono fun e w' ⟨A, c, h1, h2, h3, h4⟩ => ⟨A, c, h1, h2, h3.rd Spk_enc_len, h4⟩)
    rw [hD5.out] at e2 hk1 hk3 hAL63
    obtain ⟨AL, okA⟩ := D5
    simp only at e2 hk1 hk3 hAL63 hSF
    subst e2
    have hlen1 : Hid ((AL.take k).length = k) := Lib.hid (by rw [List.length_take]; omega)
    have HK3 := Lib.hid hk3
    obtain ⟨NA, hNA⟩ : ∃ n, Hid (AL.length = n) := ⟨_, Lib.hid rfl⟩
    obtain ⟨NH, hNH⟩ : ∃ n, Hid (hd.length = n) := ⟨_, Lib.hid rfl⟩
    rw [hNA.out] at hSF hk1 hAL63
    clear hk3
    have hUx := hM.out.later KVE.out; have p0 := hUx.cell (i := 0) (by decide); have p1 := hUx.cell (i := 1) (by decide); have p2 := hUx.cell (i := 2) (by decide); clear hUx; have hUx := hK.out.later KVE.out; have p3 := hUx.cell (i := 0) (by decide); have p4 := hUx.cell (i := 1) (by decide); clear hUx
    go_upto_region 19 with (first | (go_at_call 38; refine hSF.out.mono ?_; rintro e wF ⟨AS, cS, rfl, hcS, hrS, hbF⟩; have RS := Lib.hid hrS; have JF := Lib.hid hbF; clear hrS hbF) | fail)
    clear p0 p1 p2 p3 p4
    have hkS : k ≤ cS := by omega
    have hkH : k ≤ cH := by omega
    rw [hNH.out] at hk2 hhc hh63 ⊢
    have RHF := Lib.hid (HHd.out wF (bgo KVE.out JF.out))
    have hq : Hid (∀ y : Later wF, Calls Tryz.prog 36 #[.slice AS k cS, .slice AH k cH] y.W fun e w' => e = .returned (.bool true) ∧ Below y.W.heap.size y.W w') := Lib.hid fun y => by
      have := qSameSaid_t (AL.take k) AS AH cS cH y.W ((RS.out.go y.hb).ofTake k) (by rw [HK3.out]; exact (RHF.out.go y.hb).ofTake k) (by rw [hlen1.out]; omega)
      rw [hlen1.out] at this; exact this
    have d1 : decide ((k : Int) < 0) = false := by simp
    have d2 : decide ((NA : Int) < (k : Int)) = false := by simp; omega
    have d3 : decide ((NH : Int) < (k : Int)) = false := by simp; omega
    have d4 : decide ((k : Int) > (NA : Int)) = false := by simp; omega
    have d5 : decide ((k : Int) > (NH : Int)) = false := by simp; omega
    have d6 : decide (NA < k) = false := decide_eq_false (by omega)
    have d7 : decide (NH < k) = false := decide_eq_false (by omega)
    (refine wp_region_later (by kernel_rfl) (by kernel_rfl) ?_; (repeat (go_big_quiet_step ((first | (go_at_call 36; exact Later.call (hq.out _)))))); refine wpQuiet_nil ?_; intro _ hw'; obtain ⟨y, hw''⟩ := hw'; subst hw'')
    have hys := y.hb.size
    have hyb := Lib.hid y.hb
    generalize y.W = wG at *
    cases ok1
    · go_wp2
      go_ret
      exact ⟨rfl, bgo HBwE.out (bgo JF.out hyb.out)⟩
    · have hrb : Hid (rdR S1 = (l1, true)) := Lib.hid (by
        have hp : spokenLP l1 := by
          refine Classical.byContradiction fun hn => ?_
          have := hD1.out; rw [stR_f hn] at this; cases (Prod.mk.inj this).2
        have e := hD1.out
        rw [stR_t hp] at e
        exact rdR_t ⟨hp, (Prod.mk.inj e).1⟩)
      have hBE : Hid (Below w.heap.size w wG) := Lib.hid bgo HBwE.out (bgo JF.out hyb.out)
      have hR1e : Hid (RdL wG (wG).heap.size A1 2 Spk.enc l1) := Lib.hid R1E.out.go (bgo JF.out hyb.out)
      have hRS : Hid (Calls Tryz.prog 28 #[.string S1] wG fun e w' => ∃ A c, e = .returned (.tuple #[.slice A l1.length c, .bool true]) ∧ RdL w' w'.heap.size A 2 Spk.enc l1 ∧ Below (wG).heap.size wG w') := Lib.hid (by
        refine (iReadSpoken_any S1 wG (by omega) (HT.out.2.later hBE.out)).mono fun e w' hp => ?_
        have := hp.rd
        rw [hrb.out] at this; exact this)
      go_wp2_with (first
        | (go_at_call 28; refine hRS.out.mono ?_; rintro e wy ⟨Ay, cy, rfl, hry, hby⟩; have HRy := Lib.hid hry; have HBy := Lib.hid hby; clear hry hby)
        | (go_at_call 36; refine (qSameSaid_t l1 Ay A1 cy c1 wy HRy.out (hR1e.out.go HBy.out) (by omega)).mono ?_; rintro e wz ⟨rfl, hbz⟩; have HBz := Lib.hid (bgo hBE.out (bgo HBy.out hbz)); clear hbz)
        | fail)
      go_ret
      exact ⟨rfl, HBz.out⟩
namespace fnHeard
open Go.ChangeShapes Go.WideShapes Go.ChangeAt Go.RowKit Go.Deep
open Go.ChangeMaps (open_string shut_string)
theorem own : ownKnob Tryz.prog.godebug = none := by kernel_rfl
theorem laid : laidOutB Tryz.prog = true := by kernel_rfl
theorem reads : Tryz.f4.params.toList.all (fun t => Tryz.prog.readableRec t && decide (t < Tryz.prog.types.size)) = true := by kernel_rfl
set_option maxRecDepth 100000 in
theorem lifted (os : Os) (started : os.Started) (H : Type) (enc : TypeId × Value → H) :
    ReturnsInHanded {} Tryz.checked os 4 .any (fun w args => (Rows.fnHeardSpec.pre enc Tryz.prog Tryz.f4 [] false w args ∧ laidMetH Tryz.prog Rows.fnHeardRow.laid w) ∧ sizedMet enc Tryz.prog Tryz.f4 (OpenSpec.ofChange Rows.fnHeardSpec) false w args) (Rows.fnHeardSpec.post enc Tryz.prog Tryz.f4 false true false false) := by
  refine handed_shaped (C := Tryz.checked) (X := fun w _ => laidMetH Tryz.prog Rows.fnHeardRow.laid w) (fun _ _ _ hh h => h.of_heap hh) own started (by kernel_rfl) Tryz.func4
    (ChangeSpec.witness_shaped (enc := enc) (C := Tryz.checked) (os := os) (X := fun w _ => laidMetH Tryz.prog Rows.fnHeardRow.laid w) false (World.laidAll Tryz.prog os Rows.fnHeardRow.laid) #[.slice none 0 0, .slice none 0 0] 8 (World.laidAll_os _ _ _) (World.shaped_of_ZipB (by kernel_rfl) (by kernel_rfl)) (by kernel_rfl) (by kernel_rfl) (by kernel_rfl) (by rw [MakeChecks.laidMetH_plain _ _ _ (by kernel_rfl)]; exact laidMet_laidAll _ (by kernel_rfl) (by kernel_rfl))) ?_
  intro W base args ds gs before hsh0 hval0 hW _ _ hL _
  have hmlW : Mlen W := mlen_of hsh0
  have htabW : Tab W := tab_of (by rw [MakeChecks.laidMetH_plain _ _ _ (by kernel_rfl)] at hL; exact hL)
  have hval : ∀ (j : Nat) t v, Tryz.f4.params[j]? = some t → args[j]? = some v → Value.okWide Tryz.prog W .any base t v := hval0
  have hW' := hW
  obtain ⟨p, q, hA0, hV, rfl, hfz, hnd⟩ := hW
  have hA : DataW.TrodAll enc Tryz.prog W 0 (fun _ => true) true Tryz.f4.params.toList args.toList ds p := hA0
  rw [Tryz.params4] at hA hval
  obtain ⟨rfl, rfl⟩ := trodVars_none hV
  have hlt : ∀ x ∈ p, x.block < W.heap.size := fun x hx => by simpa using hW'.lt x (List.mem_append.2 (.inl hx))
  clear hA0 hval0
  obtain ⟨v0, vs0, d0, ds0, p0, q0, hargs, rfl, rfl, h0, r0⟩ := trodAll_cons hA
  obtain ⟨v1, vs1, d1, ds1, p1, q1, rfl, rfl, rfl, h1, r1⟩ := trodAll_cons r0
  obtain ⟨rfl, rfl, rfl⟩ := trodAll_nil r1
  obtain rfl : args = #[v0, v1] := by cases args; simp_all
  clear hargs
  obtain ⟨A0, a0, c0, rfl, y0, x0, z0⟩ := open_list Tryz.underlying22 1 (by kernel_rfl) (by omega) encByte _ Byte_el (hval 0 22 v0 rfl rfl) h0
  obtain ⟨A1, a1, c1, rfl, y1, x1, z1⟩ := open_list Tryz.underlying22 1 (by kernel_rfl) (by omega) encByte _ Byte_el (hval 1 22 v1 rfl rfl) h1
  refine (heardLaw W a0 A0 c0 x0 (by unfold maxLen at y0; omega) z0 a1 A1 c1 x1 (by unfold maxLen at y1; omega) z1 ⟨htabW, hmlW⟩).mono fun e W' ⟨he, hg⟩ => ?_
  subst he
  exact ⟨_, rfl, law_post laid reads rfl Tryz.underlying4 rfl rfl hW' hg⟩
theorem over : Rows.fnHeardRow.holds Tryz.pinned (OpenSpec.ofChange Rows.fnHeardSpec) :=
  OpenClaim.holds_of_wide 4 Tryz.f4 rfl rfl rfl rfl rfl rfl rfl ⟨rfl, rfl, rfl, rfl, rfl⟩ rfl rfl rfl rfl rfl (by kernel_rfl) Tryz.func4 facts
    (of_decide_eq_true (by kernel_rfl)) (by unfold Func.isWrapper; first | (rw [if_pos (by decide +kernel)]; kernel_rfl) | (rw [if_neg (by decide +kernel)]; exact ⟨rfl, rfl⟩))
    (fun os started H enc _ => lifted os started H enc)
theorem proved : Rows.FnHeardCardSaid :=
  Claim7.holds_tied_plain_at .later [] [.data, .data, .data, .data, .pinned] true (true, "c9dff07b3bdef47f20fb2973a65faf6ce1f9196787a7a18bb3eee8ad2dabd9d8") false
    over (fun _ h => by cases h) (by kernel_rfl) (fun _ h => by cases h) fnHeard_row_tie rfl ⟨rfl, rfl⟩ (by kernel_rfl) rfl
    (fun f fn hf hfn => by
      obtain rfl : f = 4 := Option.some.inj ((show Tryz.prog.funcNamed "loop.example/g00894/laws.FnHeard" = some 4 by kernel_rfl).symm.trans hf) |>.symm
      obtain rfl : fn = Tryz.f4 := (Option.some.inj (Tryz.func4.symm.trans hfn)).symm
      exact ⟨by kernel_rfl, fun j t ht => by
        have hm : t ∈ Tryz.f4.params.toList := Array.mem_toList_iff.2 (Array.mem_of_getElem? ht)
        have hall : (Tryz.f4.params.toList.all fun u => !Tryz.prog.wantsStandIn u) = true := by kernel_rfl
        exact (show Tryz.prog.wantsStandIn t = false by simpa using List.all_eq_true.1 hall t hm)⟩)
    (by kernel_rfl)
end fnHeard
end Go.Proofs.YtkegbbndmfnolaaGreatDoor
