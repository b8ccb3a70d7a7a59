import Derived.Test.YtbfhfnejppfehaaDoorMGainL29
import Derived.Test.YtbfhfnejppfehaaDoorMGainL30
import Derived.Test.YtbfhfnejppfehaaDoorMGainL35
import Derived.Test.YtbfhfnejppfehaaDoorMGainL23
import Derived.Test.YtbfhfnejppfehaaDoorMGainL28
/-
  Plain, and contracts that hold in every case: gains, texts of placings, readings.
-/
namespace Go.Proofs.YtbfhfnejppfehaaDoor
open Go.RowKit
set_option linter.unusedVariables false
set_option linter.unusedSimpArgs false
set_option maxRecDepth 100000

open Classical in
noncomputable def gainR (l : List Pk) (n : Int) (who : List Int) (i j : Int) : Int := if gainP l n who i j then gainV l who i j else 0
open Classical in
noncomputable def textR (l : List Pk) (n : Int) (who : List Int) : ByteArray := if placingP l n who then plTo l who who.length else ⟨#[]⟩
open Classical in
noncomputable def readR (l : List Pk) (n : Int) (s : ByteArray) : List Int := if h : ∃ who, TxtP l n who s then Classical.choose h else []
theorem gainR_t {l : List Pk} {n : Int} {who : List Int} {i j : Int} (h : gainP l n who i j) : gainR l n who i j = gainV l who i j := if_pos h
theorem gainR_f {l : List Pk} {n : Int} {who : List Int} {i j : Int} (h : ¬ gainP l n who i j) : gainR l n who i j = 0 := if_neg h
theorem textR_t {l : List Pk} {n : Int} {who : List Int} (h : placingP l n who) : textR l n who = plTo l who who.length := if_pos h
theorem textR_f {l : List Pk} {n : Int} {who : List Int} (h : ¬ placingP l n who) : textR l n who = ⟨#[]⟩ := if_neg h
theorem readR_t {l : List Pk} {n : Int} {s : ByteArray} {who : List Int} (h : TxtP l n who s) : readR l n s = who := by
  have h2 : ∃ who, TxtP l n who s := ⟨who, h⟩
  unfold readR
  rw [dif_pos h2]
  exact (Classical.choose_spec h2).uniq h
theorem readR_f {l : List Pk} {n : Int} {s : ByteArray} (h : ¬ ∃ who, TxtP l n who s) : readR l n s = [] := dif_neg h
theorem readR_bd (l : List Pk) (n : Int) (s : ByteArray) : (readR l n s).length ≤ 7 := by
  by_cases h : ∃ who, TxtP l n who s
  · obtain ⟨who, h⟩ := h
    rw [readR_t h]
    have h1 := h.1.2.1
    have h2 := h.1.1.1.2
    omega
  · rw [readR_f h]; simp
theorem textR_bd (l : List Pk) (n : Int) (who : List Int) : (textR l n who).size ≤ 154 := by
  by_cases h : placingP l n who
  · rw [textR_t h]
    have h1 := h.2.1
    have h2 := h.1.1.2
    have h3 := plTo_size h who.length (Nat.le_refl _)
    omega
  · rw [textR_f h]; decide
theorem text_back {l : List Pk} {n : Int} {who : List Int} (h : placingP l n who) : TxtP l n who (textR l n who) := by
  have h3 := textR_bd l n who
  rw [textR_t h] at h3 ⊢
  exact ⟨h, rfl, by omega⟩
/-- No exchange gains on the best placing. -/
theorem gain_best {l : List Pk} {n : Int} {i j : Int} (hb : bestP l n) (hg : gainP l n (bestR l n) i j) : gainV l (bestR l n) i j ≤ 0 := by
  rw [bestR_t hb] at hg ⊢
  obtain ⟨⟨hp, hlen, hs⟩, _, _, _, hx⟩ := hg
  have h3 := hp.1.1
  have hel := exch_len (best l n.toNat []) (i - 1).toNat (j - 1).toNat
  have hwN : (exch (best l n.toNat []) (i - 1).toNat (j - 1).toNat).length = n.toNat := by rw [hel]; omega
  obtain ⟨_, h2⟩ := best_opt (l := l) (N := n.toNat) (by omega) n.toNat [] _ hx hwN (by simp) (by simp)
  unfold sk at h2
  rw [hel] at h2
  unfold gainV
  omega


theorem sGainOf_r (l : List Pk) (who : List Int) (A A' : Option Addr) (c c' : Nat) (n i j : Int) (w : World) (h : RdP w w.heap.size A l) (h' : RdL w w.heap.size A' 1 encInt who) (hl : l.length ≤ 1048576) (hc : l.length ≤ c) (hs : ∀ x ∈ l, Person_small 1048576 x) (hl' : who.length ≤ 1048576) (hc' : who.length ≤ c') :
    Calls Tryd.prog 18 #[.slice A l.length c, .int .i64 n, .slice A' who.length c', .int .i64 i, .int .i64 j] w fun e w' => e = .returned (.tuple #[.int .i64 (gainR l n who i j), .bool (B (gainP l n who i j))]) ∧ Below w.heap.size w w' := by
  by_cases hp : gainP l n who i j
  · rw [gainR_t hp, B_t hp]; exact sGainOf_t l who A A' c c' n i j w h h' hl hc hs hl' hc' hp
  · rw [gainR_f hp, B_f hp]; exact sGainOf_f l who A A' c c' n i j w h h' hl hc hs hl' hc' hp
theorem iGainOf_r (l : List Pk) (who : List Int) (A A' : Option Addr) (c c' : Nat) (n i j : Int) (w : World) (h : RdP w w.heap.size A l) (h' : RdL w w.heap.size A' 1 encInt who) (hl : l.length ≤ 1048576) (hc : l.length ≤ c) (hs : ∀ x ∈ l, Person_small 1048576 x) (hl' : who.length ≤ 1048576) (hc' : who.length ≤ c') :
    Calls Tryd.prog 17 #[.slice A l.length c, .int .i64 n, .slice A' who.length c', .int .i64 i, .int .i64 j] w fun e w' => e = .returned (.tuple #[.int .i64 (gainR l n who i j), .bool (B (gainP l n who i j))]) ∧ Below w.heap.size w w' := by
  by_cases hp : gainP l n who i j
  · rw [gainR_t hp, B_t hp]; exact iGainOf_t l who A A' c c' n i j w h h' hl hc hs hl' hc' hp
  · rw [gainR_f hp, B_f hp]; exact iGainOf_f l who A A' c c' n i j w h h' hl hc hs hl' hc' hp


theorem sPlacingText_r (l : List Pk) (who : List Int) (A A' : Option Addr) (c c' : Nat) (n : Int) (w : World) (h : RdP w w.heap.size A l) (h' : RdL w w.heap.size A' 1 encInt who) (hl : l.length ≤ 1048576) (hc : l.length ≤ c) (hs : ∀ x ∈ l, Person_small 1048576 x) (hl' : who.length ≤ 1048576) (hc' : who.length ≤ c') (ht : Tab w) :
    Calls Tryd.prog 21 #[.slice A l.length c, .int .i64 n, .slice A' who.length c'] w fun e w' => e = .returned (.tuple #[.string (textR l n who), .bool (B (placingP l n who))]) ∧ Below w.heap.size w w' := by
  by_cases hp : placingP l n who
  · rw [textR_t hp, B_t hp]; exact sPlacingText_t l who A A' c c' n w h h' hl hc hs hl' hc' ht hp
  · rw [textR_f hp, B_f hp]; exact sPlacingText_f l who A A' c c' n w h h' hl hc hs hl' hc' hp
theorem iPlacingText_r (l : List Pk) (who : List Int) (A A' : Option Addr) (c c' : Nat) (n : Int) (w : World) (h : RdP w w.heap.size A l) (h' : RdL w w.heap.size A' 1 encInt who) (hl : l.length ≤ 1048576) (hc : l.length ≤ c) (hs : ∀ x ∈ l, Person_small 1048576 x) (hl' : who.length ≤ 1048576) (hc' : who.length ≤ c') (ht : Tab w) :
    Calls Tryd.prog 20 #[.slice A l.length c, .int .i64 n, .slice A' who.length c'] w fun e w' => e = .returned (.tuple #[.string (textR l n who), .bool (B (placingP l n who))]) ∧ Below w.heap.size w w' := by
  by_cases hp : placingP l n who
  · rw [textR_t hp, B_t hp]; exact iPlacingText_t l who A A' c c' n w h h' hl hc hs hl' hc' ht hp
  · rw [textR_f hp, B_f hp]; exact iPlacingText_f l who A A' c c' n w h h' hl hc hs hl' hc' hp


theorem sReadPlacing_r (l : List Pk) (A : Option Addr) (c : Nat) (n : Int) (s : ByteArray) (w : World) (h : RdP w w.heap.size A l) (hl : l.length ≤ 1048576) (hc : l.length ≤ c) (hs : ∀ x ∈ l, Person_small 1048576 x) (hsz : s.size ≤ 1048576) (ht : TabM w) :
    Calls Tryd.prog 24 #[.slice A l.length c, .int .i64 n, .string s] w fun e w' => ∃ A2 c2, e = .returned (.tuple #[.slice A2 (readR l n s).length c2, .bool (B (∃ who, TxtP l n who s))]) ∧ RdL w' w'.heap.size A2 1 encInt (readR l n s) ∧ Below w.heap.size w w' := by
  by_cases hp : ∃ who, TxtP l n who s
  · rw [B_t hp]
    obtain ⟨who, hp⟩ := hp
    rw [readR_t hp]; exact (sReadPlacing_t l A c n s w h hl hc hs hsz ht who hp).mono fun e w' ⟨A2, c2, h1, h3, h4⟩ => ⟨A2, c2, h1, h3.rd encInt_len, h4⟩
  · rw [readR_f hp, B_f hp]; exact (sReadPlacing_f l A c n s w h hl hc hs hsz ht hp).mono fun e w' ⟨h1, h4⟩ => ⟨none, 0, h1, RdL.nil, h4⟩
theorem iReadPlacing_r (l : List Pk) (A : Option Addr) (c : Nat) (n : Int) (s : ByteArray) (w : World) (h : RdP w w.heap.size A l) (hl : l.length ≤ 1048576) (hc : l.length ≤ c) (hs : ∀ x ∈ l, Person_small 1048576 x) (hsz : s.size ≤ 1048576) (ht : TabM w) :
    Calls Tryd.prog 23 #[.slice A l.length c, .int .i64 n, .string s] w fun e w' => ∃ A2 c2, e = .returned (.tuple #[.slice A2 (readR l n s).length c2, .bool (B (∃ who, TxtP l n who s))]) ∧ RdL w' w'.heap.size A2 1 encInt (readR l n s) ∧ Below w.heap.size w w' := by
  by_cases hp : ∃ who, TxtP l n who s
  · rw [B_t hp]
    obtain ⟨who, hp⟩ := hp
    rw [readR_t hp]; exact (iReadPlacing_t l A c n s w h hl hc hs hsz ht who hp).mono fun e w' ⟨A2, c2, h1, h3, h4⟩ => ⟨A2, c2, h1, h3.rd encInt_len, h4⟩
  · rw [readR_f hp, B_f hp]; exact (iReadPlacing_f l A c n s w h hl hc hs hsz ht hp).mono fun e w' ⟨h1, h4⟩ => ⟨none, 0, h1, RdL.nil, h4⟩
end Go.Proofs.YtbfhfnejppfehaaDoor

/-
  The drawn arguments of GainOf, PlacingText, ReadPlacing.
-/
namespace Go.Proofs.YtbfhfnejppfehaaDoor
open Go.RowKit
set_option linter.unusedVariables false
set_option linter.unusedSimpArgs false
set_option maxRecDepth 100000

theorem results_tmp5 {fn : Func} {t u v x y : Tmp} (h : fn.results = #[.tmp t, .tmp u, .tmp v, .tmp x, .tmp y]) (tmps : Array Value) (P : Program) (w : World) :
    (results fn tmps).run P w = .ok (.tuple #[tmps.getD t undef, tmps.getD u undef, tmps.getD v undef, tmps.getD x undef, tmps.getD y undef]) w := by
  simp [results, h, Result.ok, pure, Sem.run]
theorem results_tmp3' {fn : Func} {t u v : Tmp} (h : fn.results = #[.tmp t, .tmp u, .tmp v]) (tmps : Array Value) (P : Program) (w : World) :
    (results fn tmps).run P w = .ok (.tuple #[tmps.getD t undef, tmps.getD u undef, tmps.getD v undef]) w := by
  simp [results, h, Result.ok, pure, Sem.run]


theorem drawPlacingText_any (A : Option Addr) (c : Nat) (l : List Int) (w : World) (h : RdL w w.heap.size A 1 encByte l) (hb : ∀ x ∈ l, 0 ≤ x ∧ x < 256) (hl : l.length ≤ 9223372036854775807) :
    Calls Tryd.prog 19 #[.slice A l.length c] w fun e w' => ∃ (A1 : Option Addr) (c1 : Nat) (D : List Psn) (n : Int) (A2 : Option Addr) (c2 : Nat) (who : List Int), e = .returned (.tuple #[.slice A1 D.length c1, .int .i64 n, .slice A2 who.length c2]) ∧ PsOk D c1 n ∧ who.length ≤ 7 ∧ who.length ≤ c2 ∧ RdP w' w'.heap.size A1 (D.map Psn.key) ∧ RdL w' w'.heap.size A2 1 encInt who ∧ Below w.heap.size w w' := by
  have HDG := Lib.hid (drawGoodPlacing_any A c l w h hb hl)
  clear h hb
  go_enter Tryd.func19, Tryd.ntmps19
  go_wp2_with (go_at_call 40; refine HDG.out.mono ?_; rintro e w1 ⟨A1, c1, D, n, A2, c2, who, rfl, hps, k1, k2, hp, hl2, hb1⟩; have HP := Lib.hid hp.rdP; have HL := Lib.hid hl2.1; have HB1 := Lib.hid hb1; have HA := Lib.hid hps; clear hp hl2 hb1 hps)
  refine bodyPost_ret (results_tmp3' rfl _ _ _) rfl ?_
  exact ⟨A1, c1, D, n, A2, c2, who, rfl, HA.out, k1, k2, HP.out, HL.out, HB1.out⟩
set_option maxHeartbeats 1600000 in
theorem drawGainOf_any (A : Option Addr) (c : Nat) (l : List Int) (w : World) (h : RdL w w.heap.size A 1 encByte l) (hb : ∀ x ∈ l, 0 ≤ x ∧ x < 256) (hl : l.length ≤ 9223372036854775807) :
    Calls Tryd.prog 16 #[.slice A l.length c] w fun e w' => ∃ (A1 : Option Addr) (c1 : Nat) (D : List Psn) (n : Int) (A2 : Option Addr) (c2 : Nat) (who : List Int) (i j : Int), e = .returned (.tuple #[.slice A1 D.length c1, .int .i64 n, .slice A2 who.length c2, .int .i64 i, .int .i64 j]) ∧ PsOk D c1 n ∧ who.length ≤ 7 ∧ who.length ≤ c2 ∧ RdP w' w'.heap.size A1 (D.map Psn.key) ∧ RdL w' w'.heap.size A2 1 encInt who ∧ Below w.heap.size w w' := by
  have HDG := Lib.hid (drawGoodPlacing_any A c l w h hb hl)
  have H := Lib.hid h
  have Hb := Lib.hid hb
  clear h hb
  go_enter Tryd.func16, Tryd.ntmps16
  go_upto_region 2 with (go_at_call 40; refine HDG.out.mono ?_; rintro e w1 ⟨A1, c1, D, n, A2, c2, who, rfl, hps, k1, k2, hp, hl2, hb1⟩; have HP := Lib.hid hp.rdP; have HL := Lib.hid hl2.1; have HB1 := Lib.hid hb1; have HA := Lib.hid hps; clear hp hl2 hb1 hps)
  go_upto_region 3 with fail
  have hD7 : D.length ≤ 7 := HA.out.1
  have HCn := Lib.hid (Cur.rest ((H.out.below HB1.out (Nat.le_refl _)).more HB1.out.size) Hb.out hl (l.length / 2) c (c - l.length / 2) 76)
  generalize (if c = l.length / 2 then A else Option.map (fun x => x.add (l.length / 2)) A) = A9 at HCn ⊢
  obtain ⟨W2, hW2, HC2, HB2, hg2⟩ : ∃ W2 : World, Hid (w1.alloc (.cells #[.slice A9 (l.length - l.length / 2) (c - l.length / 2), .int .i64 0, .int .u64 0] 76) = W2) ∧ Hid (Cur W2 w1.heap.size 0) ∧ Hid (Below w1.heap.size w1 W2) ∧ w1.heap.size < W2.heap.size :=
    ⟨_, Lib.hid rfl, HCn, Lib.hid ((Below.refl _ _).alloc (Nat.le_refl _) _), by simp⟩
  rw [hW2.out]
  have hg2e : w1.heap.size ≤ W2.heap.size := by omega
  clear hW2 HCn
  have hn6 : 0 ≤ n ∧ n ≤ 6 := HA.out.2.2.1
  obtain ⟨hn0, hn6⟩ := hn6
  have hw2 : IntKind.i64.wrap (n + 2) = n + 2 := IntWalk.i64_in _ (by omega)
  go_wp2_with (first
    | (go_at_call 41; with_reducible show Calls _ _ #[_, Value.int _ (n + 2)] _ _; refine (pick_any w1.heap.size 0 (n + 2) W2 HC2.out (by omega) (by omega)).mono ?_; rintro e w3 ⟨i, rfl, hi0, hi1, hc3, ht3⟩; have HC3 := Lib.hid hc3; have HT3 := Lib.hid ht3; clear hc3 ht3)
    | (go_at_call 41; refine (pick_any w1.heap.size 2 n w3 HC3.out (by omega) (by omega)).mono ?_; rintro e w4 ⟨j, rfl, hj0, hj1, hc4, ht4⟩; have HT4 := Lib.hid (HT3.out.trans ht4); clear hc4 ht4))
  refine bodyPost_ret (results_tmp5 rfl _ _ _) rfl ?_
  have hend := Below.chg HB2.out HT4.out (Nat.le_refl _) hg2e
  exact ⟨A1, c1, D, n, A2, c2, who, _, _, rfl, HA.out, k1, k2, (HP.out.below hend (Nat.le_refl _)).more hend.size, (HL.out.below hend (Nat.le_refl _)).more hend.size, HB1.out.trans (hend.mono HB1.out.size)⟩
set_option maxHeartbeats 1600000 in
theorem drawReadPlacing_any (A : Option Addr) (c : Nat) (l : List Int) (w : World) (h : RdL w w.heap.size A 1 encByte l) (hb : ∀ x ∈ l, 0 ≤ x ∧ x < 256) (hl : l.length ≤ 9223372036854775807) (htab : Tab w) :
    Calls Tryd.prog 22 #[.slice A l.length c] w fun e w' => ∃ (A1 : Option Addr) (c1 : Nat) (D : List Psn) (n : Int) (s : ByteArray), e = .returned (.tuple #[.slice A1 D.length c1, .int .i64 n, .string s]) ∧ PsOk D c1 n ∧ s.size ≤ 1000 ∧ RdP w' w'.heap.size A1 (D.map Psn.key) ∧ Below w.heap.size w w' := by
  have HDG := Lib.hid (drawGoodPlacing_any A c l w h hb hl)
  have H := Lib.hid h
  have Hb := Lib.hid hb
  have Htab := Lib.hid htab
  clear h hb htab
  go_enter Tryd.func22, Tryd.ntmps22
  go_upto_region 2 with (go_at_call 40; refine HDG.out.mono ?_; rintro e w1 ⟨A1, c1, D, n, A2, c2, who, rfl, hps, k1, k2, hp, hl2, hb1⟩; have HP := Lib.hid hp.rdP; have HL := Lib.hid hl2.1; have HB1 := Lib.hid hb1; have HA := Lib.hid hps; clear hp hl2 hb1 hps)
  go_upto_region 3 with fail
  have hD7 : D.length ≤ 7 := HA.out.1
  have HCn := Lib.hid (Cur.rest ((H.out.below HB1.out (Nat.le_refl _)).more HB1.out.size) Hb.out hl (l.length / 2) c (c - l.length / 2) 76)
  generalize (if c = l.length / 2 then A else Option.map (fun x => x.add (l.length / 2)) A) = A9 at HCn ⊢
  obtain ⟨W2, hW2, HC2, HB2, hg2⟩ : ∃ W2 : World, Hid (w1.alloc (.cells #[.slice A9 (l.length - l.length / 2) (c - l.length / 2), .int .i64 0, .int .u64 0] 76) = W2) ∧ Hid (Cur W2 w1.heap.size 0) ∧ Hid (Below w1.heap.size w1 W2) ∧ w1.heap.size < W2.heap.size :=
    ⟨_, Lib.hid rfl, HCn, Lib.hid ((Below.refl _ _).alloc (Nat.le_refl _) _), by simp⟩
  rw [hW2.out]
  have hg2e : w1.heap.size ≤ W2.heap.size := by omega
  clear hW2 HCn
  obtain ⟨L, hL⟩ : ∃ L, Hid (D.map Psn.key = L) := ⟨_, Lib.hid rfl⟩
  have hLl : Hid (L.length = D.length) := Lib.hid (by rw [← hL.out]; simp)
  have HT := Lib.hid (sPlacingText_r L who A1 A2 c1 c2 n W2 (by rw [← hL.out]; exact (HP.out.below HB2.out (Nat.le_refl _)).more hg2e) ((HL.out.below HB2.out (Nat.le_refl _)).more hg2e) (by rw [hLl.out]; omega) (by rw [hLl.out]; exact HA.out.2.1) (by rw [← hL.out]; exact small_ps HA.out.2.2.2) (by omega) k2 ((Htab.out.later HB1.out).later HB2.out))
  rw [hLl.out] at HT
  have ht154 := textR_bd L n who
  obtain ⟨T, hT⟩ : ∃ T, Hid (textR L n who = T) := ⟨_, Lib.hid rfl⟩
  rw [hT.out] at HT ht154
  go_upto_region 5 with (first
    | (go_at_call 21; refine HT.out.mono ?_; rintro e w3 ⟨rfl, hb3⟩; have HC3 := Lib.hid (HC2.out.later hb3); have HT3 := Lib.hid (Turn.of (g := w1.heap.size) hb3); clear hb3)
    | (go_at_call 55; refine (one_any w1.heap.size 0 2 w3 HC3.out (by omega) (by omega)).mono ?_; rintro e w4 ⟨b8, rfl, hc4, ht4⟩; have HC4 := Lib.hid hc4; have HT4 := Lib.hid (HT3.out.trans ht4); clear hc4 ht4; cases b8))
  · go_wp2
    refine bodyPost_ret (results_tmp3' rfl _ _ _) rfl ?_
    have hend := Below.chg HB2.out HT4.out (Nat.le_refl _) hg2e
    exact ⟨A1, c1, D, n, T, rfl, HA.out, by omega, (HP.out.below hend (Nat.le_refl _)).more hend.size, HB1.out.trans (hend.mono HB1.out.size)⟩
  · go_wp2_with (go_at_call 56; refine (spoilt_any w1.heap.size 2 T _ w4 HC4.out (by omega) (by omega) (by decide) (by decide)).mono ?_; rintro e w5 ⟨s2, rfl, hs2, hc5, ht5⟩; have HT5 := Lib.hid (HT4.out.trans ht5); clear hc5 ht5)
    refine bodyPost_ret (results_tmp3' rfl _ _ _) rfl ?_
    have hend := Below.chg HB2.out HT5.out (Nat.le_refl _) hg2e
    exact ⟨A1, c1, D, n, s2, rfl, HA.out, by omega, (HP.out.below hend (Nat.le_refl _)).more hend.size, HB1.out.trans (hend.mono HB1.out.size)⟩
end Go.Proofs.YtbfhfnejppfehaaDoor
