import Derived.Test.YtkegbbndmfnolaaGreatDoorMHeardL21
import Derived.Test.YtkegbbndmfnolaaGreatDoorMHeardL25
import Derived.Test.YtkegbbndmfnolaaGreatDoorMHeardL05
import Derived.Test.YtkegbbndmfnolaaGreatDoorMHeardL12
import Derived.Test.YtkegbbndmfnolaaGreatDoorMHeardL13
/-
  Drawn arguments of the laws on spoken words.
-/
namespace Go.Proofs.YtkegbbndmfnolaaGreatDoor
open Go.RowKit
set_option linter.unusedVariables false
set_option linter.unusedSimpArgs false
set_option maxRecDepth 100000








/-- An element of an own slice turns in one field. -/
theorem OwnL.put {α : Type} {enc : α → List Value} {size : Nat} {w : World} {b c g : Nat} {l : List α} (h : OwnL w b c (some ⟨g, 0, none⟩) size enc l) (henc : ∀ x, (enc x).length = size) (k : Nat) (hk : k < l.length) (j : Nat) (hj : j < size) (y : α) (v : Value) (he : enc y = (enc l[k]).set j v) :
    OwnL (w.setCell ⟨g, k * size + j, none⟩ v) b c (some ⟨g, 0, none⟩) size enc (l.set k y) := by
  rcases h with h | ⟨g', f, hA, h1, h2, h3, h4⟩
  · subst h; simp at hk
  · simp only [Option.some.injEq, Addr.mk.injEq, and_true] at hA
    subst hA
    refine .inr ⟨g, _, rfl, h1, h2, by rw [List.length_set]; exact h3.set (i := k * size + j) (idx_lt hk hj) v, fun i hi q u hu => ?_⟩
    have hq : q < size := by rw [← henc ((l.set k y)[i])]; exact (List.getElem?_eq_some_iff.1 hu).1
    have hi' : i < l.length := by simpa using hi
    by_cases e : i = k
    · subst e
      rw [List.getElem_set_self, he] at hu
      by_cases e2 : q = j
      · subst e2
        rw [upd_same]
        rw [List.getElem?_set_self (by rw [henc]; exact hj)] at hu
        exact Option.some.inj hu
      · rw [List.getElem?_set_ne (fun x => e2 x.symm)] at hu
        rw [upd_other _ _ _ _ (by omega)]
        exact h4 i hk q u hu
    · rw [List.getElem_set_ne (fun x => e x.symm)] at hu
      rw [upd_other _ _ _ _ (fun x => e ?_)]
      · exact h4 i hi' q u hu
      · have e1 : (i * size + q) / size = i := by rw [Nat.mul_comm, Nat.mul_add_div (by omega), Nat.div_eq_of_lt hq]; omega
        have e2 : (k * size + j) / size = k := by rw [Nat.mul_comm, Nat.mul_add_div (by omega), Nat.div_eq_of_lt hj]; omega
        rw [x] at e1; omega
/-- An element of an own slice: its cells. -/
theorem OwnL.get {α : Type} {enc : α → List Value} {size : Nat} {w : World} {b c g : Nat} {l : List α} (h : OwnL w b c (some ⟨g, 0, none⟩) size enc l) (henc : ∀ x, (enc x).length = size) (k : Nat) (hk : k < l.length) (j : Nat) (hj : j < size) :
    w.cell? ⟨g, k * size + j, none⟩ = some ((enc l[k]).getD j undef) ∧ w.frozen? ⟨g, k * size + j, none⟩ = false := by
  rcases h with h | ⟨g', f, hA, h1, h2, h3, h4⟩
  · subst h; simp at hk
  · simp only [Option.some.injEq, Addr.mk.injEq, and_true] at hA
    subst hA
    have hx : (enc l[k])[j]? = some ((enc l[k]).getD j undef) := by rw [List.getD_eq_getElem?_getD, List.getElem?_eq_getElem (by rw [henc]; exact hj)]; rfl
    exact ⟨by rw [h3.cell (idx_lt hk hj), h4 k hk j _ hx], h3.free (idx_lt hk hj)⟩
theorem RdL.tailN {α : Type} {enc : α → List Value} {size : Nat} {w : World} {b g off : Nat} {l : List α} (h : RdL w b (some ⟨g, off, none⟩) size enc l) : RdL w b (some ⟨g, off + size, none⟩) size enc l.tail := by
  rcases h with h | ⟨g', off', hA, hg, hc⟩
  · subst h; exact .inl rfl
  · simp only [Option.some.injEq, Addr.mk.injEq, and_true] at hA
    obtain ⟨rfl, rfl⟩ := hA
    refine .inr ⟨g, _, rfl, hg, fun i hi j u hu => ?_⟩
    have hi' : i + 1 < l.length := by rw [List.length_tail] at hi; omega
    rw [List.getElem_tail] at hu
    have := hc (i + 1) hi' j u hu
    rw [show off + size + (i * size + j) = off + ((i + 1) * size + j) by rw [Nat.add_mul]; omega]
    exact this
/-- A drawn method, calls, touch and row as a result. -/
def SfDrawn (w : World) (e : Ending) (w' : World) : Prop := ∃ (m : Mth) (b s t : ByteArray) (first : Int), e = .returned (.tuple #[.agg #[.string m.name, .int .i64 m.stage, .slice m.A m.x.length m.c], .agg #[.string b, .string s], .string t, .int .i64 first]) ∧ t.size ≤ 1048576 ∧ (∀ W', Chg 0 w.heap.size w' W' → MkOk m b s W') ∧ Below w.heap.size w w'
/-- A world behind the making of a literal. -/
structure AmW (V : World) (n : Nat) (f : Nat → Value) (W : World) : Prop where
  bl : Below V.heap.size V W
  cl : Cells W V.heap.size n f
theorem AmW.lit {V W : World} {t : TypeId} {c : Array Value} {n : Nat} (hn : c.size = n) (h : Below V.heap.size V W) (hs : W.heap.size = V.heap.size) : AmW V n (fun i => c.getD i undef) (W.alloc (.cells c t)) :=
  ⟨h.alloc (by omega) _, by have := Cells.lit W c t n hn; rw [hs] at this; exact this⟩
theorem AmW.drewA {V W : World} {n : Nat} {f : Nat → Value} (h : AmW V n f W) : AmW V n f W.drew := ⟨h.bl.drew, ⟨h.cl.1, h.cl.2⟩⟩


set_option maxHeartbeats 16000000 in
theorem drawSpokenFor_any (A : Option Addr) (c : Nat) (l : List Int) (w : World) (h : RdL w w.heap.size A 1 encByte l) (hb : ∀ x ∈ l, 0 ≤ x ∧ x < 256) (hl : l.length ≤ 9223372036854775807) : Calls Tryz.prog 94 #[.slice A l.length c] w fun e w' => SfDrawn w e w' := by
  obtain ⟨W0, hWe, hWs, hWb, hR, hQ, HC0⟩ : ∃ W0 : World, Hid ((((w.alloc (.cells #[Value.string ⟨#[]⟩, .int .i64 0, .slice none 0 0] 26)).alloc (.cells #[Value.string ⟨#[]⟩, .string ⟨#[]⟩] 28)).alloc (.cells #[.slice A l.length c, .int .i64 0, .int .u64 0] 84)) = W0) ∧ Hid (W0.heap.size = w.heap.size + 3) ∧ Hid (Below w.heap.size w W0) ∧ Hid (Cells W0 w.heap.size 3 (fun i => (#[Value.string ⟨#[]⟩, .int .i64 0, .slice none 0 0] : Array Value).getD i undef)) ∧ Hid (Cells W0 (w.heap.size + 1) 2 (fun i => (#[Value.string ⟨#[]⟩, .string ⟨#[]⟩] : Array Value).getD i undef)) ∧ Hid (Cur W0 (w.heap.size + 2) 0) := by
    have z1 : w.heap.size + 1 = (w.alloc (.cells #[Value.string ⟨#[]⟩, .int .i64 0, .slice none 0 0] 26)).heap.size := by simp
    have z2 : ((w.alloc (.cells #[Value.string ⟨#[]⟩, .int .i64 0, .slice none 0 0] 26)).alloc (.cells #[Value.string ⟨#[]⟩, .string ⟨#[]⟩] 28)).heap.size = w.heap.size + 2 := by simp
    have hB1 : Below w.heap.size w ((w.alloc (.cells #[Value.string ⟨#[]⟩, .int .i64 0, .slice none 0 0] 26)).alloc (.cells #[Value.string ⟨#[]⟩, .string ⟨#[]⟩] 28)) := ((Below.refl _ _).alloc (Nat.le_refl _) _).alloc (by simp) _
    refine ⟨_, Lib.hid rfl, Lib.hid (by simp), Lib.hid (hB1.alloc (by simp; omega) _), Lib.hid (((Cells.newD _ #[Value.string ⟨#[]⟩, .int .i64 0, .slice none 0 0] _).alloc _).alloc _), Lib.hid ?_, Lib.hid ?_⟩
    · rw [z1]; exact (Cells.newD _ #[Value.string ⟨#[]⟩, .string ⟨#[]⟩] _).alloc _
    · have := Cur.new (c := c) ((h.below hB1 (Nat.le_refl _)).more hB1.size) hb hl 84
      rw [z2] at this
      exact this
  have hWs1 : w.heap.size + 3 = W0.heap.size := hWs.out.symm
  obtain ⟨g, hg⟩ : ∃ g, Hid (w.heap.size + 2 = g) := ⟨_, Lib.hid rfl⟩
  have hge := hg.out
  rw [hg.out] at HC0
  clear h hb
  go_enter Tryz.func94, Tryz.ntmps94
  go_upto_region 2 with fail
  rw [hWe.out]
  (try rw [hg.out])
  clear hWe
  go_upto_region 3 with (first | (go_at_call 143; refine (roundTouch_any g 0 W0 HC0.out (by omega)).mono ?_; rintro e w1 ⟨nm, n, x, A, c, b, s, t, rfl, hok, hxc, hbb, hss, htt, ho, hc, ht⟩; have HOK := Lib.hid hok; have Hb := Lib.hid hbb; have Hs := Lib.hid hss; have Ht := Lib.hid htt; have HO1 := Lib.hid ho; have HC1 := Lib.hid hc; have HT1 := Lib.hid ht; have hz1 := ht.size; clear hok hbb hss htt ho hc ht) | fail)
  obtain ⟨V, hVe, hVb, hM, hKc, hVs⟩ : ∃ V : World, Hid (((w1.alloc (.cells #[Value.string nm, .int .i64 n, .slice A x.length c] 26)).alloc (.cells #[Value.string b, .string s] 28)) = V) ∧ Hid (Below w1.heap.size w1 V) ∧ Hid (Cells V w1.heap.size 3 (fun i => (#[Value.string nm, .int .i64 n, .slice A x.length c] : Array Value).getD i undef)) ∧ Hid (Cells V (w1.heap.size + 1) 2 (fun i => (#[Value.string b, .string s] : Array Value).getD i undef)) ∧ w1.heap.size + 2 ≤ V.heap.size := by
    have z1 : w1.heap.size + 1 = (w1.alloc (.cells #[Value.string nm, .int .i64 n, .slice A x.length c] 26)).heap.size := by simp
    refine ⟨_, Lib.hid rfl, Lib.hid (((Below.refl _ _).alloc (Nat.le_refl _) _).alloc (by simp) _), Lib.hid ?_, Lib.hid ?_, by simp⟩
    · exact (Cells.newD _ #[Value.string nm, .int .i64 n, .slice A x.length c] _).alloc _
    · rw [z1]; exact Cells.newD _ #[Value.string b, .string s] _
  rw [hVe.out]
  clear hVe
  obtain ⟨bm, hbm⟩ : ∃ bm, Hid (w1.heap.size = bm) := ⟨_, Lib.hid rfl⟩
  rw [hbm.out] at hM hKc hVs ⊢
  have hbe := hbm.out
  have HCV := Lib.hid (HC1.out.later hVb.out)
  have HOV := Lib.hid (HO1.out.later hVb.out)
  have HTV := Lib.hid (HT1.out.then hVb.out)
  have HRV := Lib.hid ((hR.out.turn HT1.out (.inl (by omega))).later hVb.out)
  have HQV := Lib.hid ((hQ.out.turn HT1.out (.inl (by omega))).later hVb.out)
  have hgm : g + 1 ≤ bm := by omega
  have u0 := hM.out.cell (i := 0) (by omega)
  have u1 := hM.out.cell (i := 1) (by omega)
  have u2 := hM.out.cell (i := 2) (by omega)
  have u3 := hKc.out.cell (i := 0) (by omega)
  have u4 := hKc.out.cell (i := 1) (by omega)
  have hb1 : bm < V.heap.size := by omega
  have hb2 : bm + 1 < V.heap.size := by omega
  have hb3 : w.heap.size < V.heap.size := by omega
  have hb4 : w.heap.size + 1 < V.heap.size := by omega
  have HAm : Hid (∀ W, AmW V 8 (fun i => (#[Value.int .i64 1, .int .i64 2, .int .i64 5, .int .i64 20, .int .i64 1, .int .i64 2, .int .i64 0, .int .i64 21] : Array Value).getD i undef) W → Calls Tryz.prog 77 #[.pointer (some ⟨g, 0, none⟩), .slice (some ⟨V.heap.size, 0, none⟩) 8 8] W fun e w' => ∃ v, e = .returned v ∧ ∃ y, v = .int .i64 y ∧ Cur w' g 2002 ∧ Turn g V w') := Lib.hid fun W ha => by
    have := among_any g 2000 V.heap.size 8 8 _ (fun _ => True) W (HCV.out.later ha.bl) (by omega) (by omega) (by omega) ha.cl (by omega) (by intro k hk; rcases k with _ | _ | _ | _ | _ | _ | _ | _ | k <;> first | exact ⟨_, rfl, trivial⟩ | omega)
    exact this.mono fun e w' ⟨y, he, _, hc, ht⟩ => ⟨_, he, y, rfl, hc, (Turn.of ha.bl).trans ht⟩
  go_region_law (first
    | (refine step_callsX (by rfl) 77 (by rfl) #[.pointer (some ⟨g, 0, none⟩), .slice (some ⟨V.heap.size, 0, none⟩) 8 8] (by go_simp) (HAm.out _ (by repeat (first | refine AmW.drewA ?_ | exact AmW.lit rfl (by repeat (first | exact Below.refl _ _ | refine Below.drew ?_ | refine Below.alloc ?_ (Nat.le_refl _) _)) rfl))) ?_; rintro v wB ⟨y, rfl, hcB, htB⟩; have HTB := Lib.hid htB; have hzB := htB.size; have HMB := Lib.hid (hM.out.turn htB (.inr hgm)); have m0 := HMB.out.cell (i := 0) (by omega); have m1 := HMB.out.cell (i := 1) (by omega); have m2 := HMB.out.cell (i := 2) (by omega); have HKB := Lib.hid (hKc.out.turn htB (.inr (by omega))); have k0 := HKB.out.cell (i := 0) (by omega); have k1 := HKB.out.cell (i := 1) (by omega); have hRx := (HRV.out.turn htB (.inl (by omega))); have hQx := (HQV.out.turn htB (.inl (by omega))); have r0 := hRx.cell (i := 0) (by omega); have r1 := hRx.cell (i := 1) (by omega); have r2 := hRx.cell (i := 2) (by omega); have rf0 := hRx.free (i := 0) (by omega); have rf1 := hRx.free (i := 1) (by omega); have rf2 := hRx.free (i := 2) (by omega); have q0 := hQx.cell (i := 0) (by omega); have q1 := hQx.cell (i := 1) (by omega); have qf0 := hQx.free (i := 0) (by omega); have qf1 := hQx.free (i := 1) (by omega); clear hRx hQx; clear hcB htB)
    | fail)
  all_goals
    clear u0 u1 u2 u3 u4
    go_wp2
    refine bodyPost_ret (v := .tuple #[.agg #[Value.string nm, .int .i64 n, .slice A x.length c], .agg #[Value.string b, .string s], .string t, .int .i64 y]) (by simp [results, Tryz.results94, go_sem, r0, r1, r2, rf0, rf1, rf2, q0, q1, qf0, qf1]) rfl ?_
    clear r0 r1 r2 rf0 rf1 rf2 q0 q1 qf0 qf1 m0 m1 m2 k0 k1
    have key : ∀ w9, Chg w.heap.size (w.heap.size + 2) wB w9 → SfDrawn w (.returned (.tuple #[.agg #[Value.string nm, .int .i64 n, .slice A x.length c], .agg #[Value.string b, .string s], .string t, .int .i64 y])) w9 := fun w9 kc => by
      have hO := (HOV.out.turn HTB.out (.inr (by omega))).chg kc (.inr (by omega))
      refine ⟨⟨nm, n, x, A, c⟩, b, s, t, y, rfl, Ht.out, fun W' kW => ⟨((hO.chg kW (.inr (by omega))).rd encString_len), Nat.le_trans HOK.out.wd.2.2 (by omega), Nat.le_trans HOK.out.x9 (by omega), fun y hy => by have := (HOK.out.ch y hy).size; unfold String_small; omega, Hb.out, Hs.out, hxc⟩, ?_⟩
      exact Below.chg (Below.chg hWb.out (HTV.out.trans HTB.out) (by omega) (by omega)) kc (Nat.le_refl _) (by omega)
    refine key _ ?_
    repeat (first | (with_reducible exact Chg.refl _ _ _) | (with_reducible refine Chg.setCell ?_ (by simp) (by simp) _) | (with_reducible refine Chg.drewH ?_))
/-- Drawn spoken words as a result. -/
def SpkDrawn (g K N : Nat) (w : World) (e : Ending) (w' : World) : Prop := ∃ (o : List Spk) (A2 : Option Addr) (c2 : Nat), e = .returned (.slice A2 o.length c2) ∧ o.length ≤ N ∧ o.length ≤ c2 ∧ (∀ W', Chg 0 w.heap.size w' W' → RdL W' W'.heap.size A2 2 Spk.enc o) ∧ Cur w' g (K + 6) ∧ Turn g w w'
theorem SpkDrawn.of {g K N lo : Nat} {w w' : World} {e : Ending} {o : List Spk} {A2 : Option Addr} {c2 m : Nat} (he : e = .returned (.slice A2 m c2)) (hm : m = o.length) (h1 : o.length ≤ N) (h2 : m ≤ c2) (ho : OwnL w' lo w'.heap.size A2 2 Spk.enc o) (hlo : w.heap.size ≤ lo) (hc : Cur w' g (K + 6)) (ht : Turn g w w') : SpkDrawn g K N w e w' := by
  subst hm
  exact ⟨o, A2, c2, he, h1, h2, fun W' kW => (ho.chg kW (.inr hlo)).rd Spk_enc_len, hc, ht⟩
set_option maxHeartbeats 6400000 in
theorem spoken_any (g K : Nat) (l : List Spk) (A : Option Addr) (c : Nat) (w : World) (h : Cur w g K) (hK : K ≤ 1000000) (hr : RdL w w.heap.size A 2 Spk.enc l) (hl : l.length ≤ 63) :
    Calls Tryz.prog 95 #[.pointer (some ⟨g, 0, none⟩), .slice A l.length c] w fun e w' => SpkDrawn g K l.length w e w' := by
  have H := Lib.hid h
  have HR := Lib.hid hr
  have hgw := h.lt
  clear h hr
  by_cases hl0 : l.length = 0
  · obtain rfl : l = [] := List.eq_nil_of_length_eq_zero hl0
    go_enter Tryz.func95, Tryz.ntmps95
    go_wp2_with (at_builtin; refine wpList_pushNone rfl (.tmp 7) (.tmp 8) 52 rfl 108 rfl (by kernel_rfl) rfl rfl (Nat.le_refl _) ?_)
    go_ret
    have hb : Below w.heap.size w (w.alloc (.cells #[] 108)) := (Below.refl _ _).alloc (Nat.le_refl _) _
    exact ⟨[], _, _, rfl, by simp, by simp, fun W' kW => .inl rfl, (H.out.later hb).more (by omega), Turn.of hb⟩
  have hl1 : 0 < l.length := by omega
  have hld : ((l.length : Int) == 0) = false := by rw [beq_eq_false_iff_ne]; omega
  clear hl0
  go_enter Tryz.func95, Tryz.ntmps95
  go_upto_region 2 with (at_builtin; refine wpList_pushAll rfl _ _ 52 rfl w.heap.size 108 _ 2 24 Spk.enc rfl Spoken_info rfl (by omega) _ [] l _ _ w.heap.size rfl rfl (HR.out.below ((Below.refl _ _).alloc (Nat.le_refl _) _) (Nat.le_refl _)) hl1 (Grow.empty (Nat.le_refl _)) Spk_enc_len (by simp [Spk.enc, Value.oneCell']) (by first | (simp; done) | (simp; omega)) (by omega) (by simp) ?_; intro v' w1 hg1 hb1 _; have HG1 := Lib.hid hg1; have HB1 := Lib.hid (((Below.refl _ _).alloc (Nat.le_refl _) _).trans hb1); clear hg1 hb1)
  rw [List.nil_append] at HG1
  obtain ⟨gq, cap, rfl, hq1, hq2, hq3⟩ := HG1.out.some_ hl1
  have HO1 : Hid (OwnL w1 w.heap.size w1.heap.size (some ⟨gq, 0, none⟩) 2 Spk.enc l) := Lib.hid (by
    obtain ⟨A9, c9, e9, o9⟩ := HG1.out.own Spk_enc_len
    injection e9 with e9 _ _
    rw [e9]; exact o9)
  have HC1 := Lib.hid (H.out.later HB1.out)
  have HT1 := Lib.hid (Turn.of (g := g) HB1.out)
  have hz1 := HB1.out.size
  clear HG1 HR H
  obtain ⟨L, hL⟩ : ∃ L, Hid (l.length = L) := ⟨_, Lib.hid rfl⟩
  rw [hL.out] at hl hl1 hld hq3 ⊢
  go_upto_region 5 with (first | (go_at_call 53; refine (pick_any g K (L : Int) w1 HC1.out (by omega) (by omega)).mono ?_; rintro e w2 ⟨p, rfl, hp0, hp1, hc2, ht2⟩; have HC2 := Lib.hid hc2; have Ht2 := Lib.hid ht2; have hz2 := ht2.size; clear hc2 ht2; obtain ⟨k, rfl⟩ : ∃ k : Nat, p = (k : Int) := ⟨p.toNat, by omega⟩; have hk : k < L := (by omega)) | fail)
  have hkl : k < l.length := by rw [hL.out]; exact hk
  have HO2 := Lib.hid (HO1.out.chg Ht2.out (.inr (by omega)))
  have HT2 := Lib.hid (HT1.out.trans Ht2.out)
  go_upto_region 6 with (first | (go_at_call 53; refine (pick_any g (K + 2) 6 w2 HC2.out (by omega) (by omega)).mono ?_; rintro e w3 ⟨q, rfl, hq0, hq6, hc3, ht3⟩; have HC3 := Lib.hid hc3; have HO3 := Lib.hid (HO2.out.chg ht3 (.inr (by omega))); have HT3 := Lib.hid (HT2.out.trans ht3); have hz3 := ht3.size; clear hc3 ht3) | fail)
  have HO3' : Hid (OwnL w3 w.heap.size w3.heap.size (some ⟨gq, 0, none⟩) 2 Spk.enc l) := Lib.hid (HO3.out.mono (Nat.le_refl _) (by omega))
  obtain ⟨c0, f0⟩ := HO3'.out.get Spk_enc_len k hkl 0 (by omega)
  obtain ⟨c1, f1⟩ := HO3'.out.get Spk_enc_len k hkl 1 (by omega)
  have c0 : w3.cell? ⟨gq, k * 2, none⟩ = some (.int .i64 l[k].row) := c0
  have f0 : w3.frozen? ⟨gq, k * 2, none⟩ = false := f0
  have c1 : w3.cell? ⟨gq, k * 2 + 1, none⟩ = some (.string l[k].word) := c1
  obtain ⟨x, hx⟩ : ∃ x, Hid (l[k] = x) := ⟨_, Lib.hid rfl⟩
  rw [hx.out] at c0 c1
  by_cases e0 : q = 0
  · have d0 : (q == (0 : Int)) = true := by simpa using e0
    clear e0
    go_wp2
    go_ret
    have kb : Below gq w3 (w3.setCell ⟨gq, k * 2, none⟩ (.int .i64 (wrap64 (x.row + 1)))) := (Below.refl _ _).setCell (p := ⟨gq, k * 2, none⟩) (Nat.le_refl _) _
    exact SpkDrawn.of (o := l.set k ⟨wrap64 (x.row + 1), x.word⟩) rfl (by rw [List.length_set]; exact hL.out.symm) (by rw [List.length_set]; exact Nat.le_refl _) hq3 ((HO3'.out.put Spk_enc_len k hkl 0 (by omega) ⟨wrap64 (x.row + 1), x.word⟩ (.int .i64 (wrap64 (x.row + 1))) (by rw [hx.out]; rfl)).mono (Nat.le_refl _) kb.size) (Nat.le_refl _) ((HC3.out.keep kb (by omega)).more (by omega)) (HT3.out.thenB (kb.mono (by omega)))
  have d0 : (q == (0 : Int)) = false := by simpa using e0
  clear e0
  by_cases e1 : q = 1
  · have d1 : (q == (1 : Int)) = true := by simpa using e1
    clear e1 c0 f0 c1 f1
    go_wp2_with (first | (go_at_call 54; refine (of_any g (K + 4) w3.heap.size 4 4 _ (fun s => s.size ≤ 6) _ (HC3.out.later ((Below.refl _ _).alloc (Nat.le_refl _) _)) (by omega) (by omega) (by omega) (Cells.lit w3 _ _ 4 rfl) (by have := HC3.out.lt; omega) (by intro k hk; rcases k with _ | _ | _ | _ | k <;> first | exact ⟨_, rfl, by decide⟩ | omega)).mono ?_; rintro e w4 ⟨s9, rfl, hs9, hc4, ht4⟩; have HC4 := Lib.hid hc4; have ht4' := (Turn.of ((Below.refl _ _).alloc (Nat.le_refl _) _)).trans ht4; have HT4 := Lib.hid (HT3.out.trans ht4'); have hz4 := ht4'.size; have HO4 := Lib.hid ((HO3'.out.chg ht4' (.inr (by omega))).mono (Nat.le_refl _) hz4); have f1 := (HO4.out.get Spk_enc_len k hkl 1 (by omega)).2; have c1 := (HO4.out.get Spk_enc_len k hkl 1 (by omega)).1; clear hc4 ht4 ht4') | fail)
    go_ret
    have kb : Below gq w4 (w4.setCell ⟨gq, k * 2 + 1, none⟩ (.string s9)) := (Below.refl _ _).setCell (p := ⟨gq, k * 2 + 1, none⟩) (Nat.le_refl _) _
    exact SpkDrawn.of (o := l.set k ⟨x.row, s9⟩) rfl (by rw [List.length_set]; exact hL.out.symm) (by rw [List.length_set]; exact Nat.le_refl _) hq3 ((HO4.out.put Spk_enc_len k hkl 1 (by omega) ⟨x.row, s9⟩ (.string s9) (by rw [hx.out]; rfl)).mono (Nat.le_refl _) kb.size) (Nat.le_refl _) ((HC4.out.keep kb (by omega)).more (by omega)) (HT4.out.thenB (kb.mono (by omega)))
  have d1 : (q == (1 : Int)) = false := by simpa using e1
  clear e1
  by_cases e2 : q = 2
  · have d2 : (q == (2 : Int)) = true := by simpa using e2
    clear e2 c0 f0 c1 f1
    by_cases hcap : cap = 1
    · subst hcap
      have hL1 : Hid (L = 1) := Lib.hid (by omega)
      go_wp2
      go_ret
      exact ⟨[], some ⟨gq, 0, none⟩, 0, by rw [hL1.out]; rfl, by simp, by simp, fun W' kW => .inl rfl, HC3.out.more (by omega), HT3.out⟩
    · go_wp2
      go_ret
      exact ⟨l.tail, some ⟨gq, 0 + 2, none⟩, cap - 1, by rw [List.length_tail, hL.out]; rfl, by simp, by rw [List.length_tail, hL.out]; omega, fun W' kW => ((HO3'.out.chg kW (.inr (Nat.le_refl _))).rd Spk_enc_len).tailN, HC3.out.more (by omega), HT3.out⟩
  have d2 : (q == (2 : Int)) = false := by simpa using e2
  clear e2 c0 f0 c1 f1
  go_wp2
  go_ret
  exact SpkDrawn.of rfl hL.out.symm (Nat.le_refl _) hq3 HO3'.out (Nat.le_refl _) (HC3.out.more (by omega)) HT3.out
theorem sayR_le {m : Mth} {b s t : ByteArray} {first : Int} : (sayR m b s t first).1.length ≤ 63 := by
  by_cases h : sayP m b s t first
  · rw [sayR_t h]; exact sayL_small h.2.2.1.2.2
  · rw [sayR_f h]; simp
/-- A drawn method, calls and spoken words as a result. -/
def TsDrawn (w : World) (e : Ending) (w' : World) : Prop := ∃ (m : Mth) (b s : ByteArray) (l : List Spk) (A2 : Option Addr) (c2 : Nat), e = .returned (.tuple #[.agg #[.string m.name, .int .i64 m.stage, .slice m.A m.x.length m.c], .agg #[.string b, .string s], .slice A2 l.length c2]) ∧ l.length ≤ 63 ∧ l.length ≤ c2 ∧ (∀ W', Chg 0 w.heap.size w' W' → MkOk m b s W' ∧ RdL W' W'.heap.size A2 2 Spk.enc l) ∧ Below w.heap.size w w'

set_option maxHeartbeats 16000000 in
theorem drawTouchSaid_any (A : Option Addr) (c : Nat) (l : List Int) (w : World) (h : RdL w w.heap.size A 1 encByte l) (hb : ∀ x ∈ l, 0 ≤ x ∧ x < 256) (hl : l.length ≤ 9223372036854775807) : Calls Tryz.prog 137 #[.slice A l.length c] w fun e w' => TsDrawn w e w' := by
  obtain ⟨W0, hWe, hWs, hWb, hR, hQ, HC0⟩ : ∃ W0 : World, Hid ((((w.alloc (.cells #[Value.string ⟨#[]⟩, .int .i64 0, .slice none 0 0] 26)).alloc (.cells #[Value.string ⟨#[]⟩, .string ⟨#[]⟩] 28)).alloc (.cells #[.slice A l.length c, .int .i64 0, .int .u64 0] 84)) = W0) ∧ Hid (W0.heap.size = w.heap.size + 3) ∧ Hid (Below w.heap.size w W0) ∧ Hid (Cells W0 w.heap.size 3 (fun i => (#[Value.string ⟨#[]⟩, .int .i64 0, .slice none 0 0] : Array Value).getD i undef)) ∧ Hid (Cells W0 (w.heap.size + 1) 2 (fun i => (#[Value.string ⟨#[]⟩, .string ⟨#[]⟩] : Array Value).getD i undef)) ∧ Hid (Cur W0 (w.heap.size + 2) 0) := by
    have z1 : w.heap.size + 1 = (w.alloc (.cells #[Value.string ⟨#[]⟩, .int .i64 0, .slice none 0 0] 26)).heap.size := by simp
    have z2 : ((w.alloc (.cells #[Value.string ⟨#[]⟩, .int .i64 0, .slice none 0 0] 26)).alloc (.cells #[Value.string ⟨#[]⟩, .string ⟨#[]⟩] 28)).heap.size = w.heap.size + 2 := by simp
    have hB1 : Below w.heap.size w ((w.alloc (.cells #[Value.string ⟨#[]⟩, .int .i64 0, .slice none 0 0] 26)).alloc (.cells #[Value.string ⟨#[]⟩, .string ⟨#[]⟩] 28)) := ((Below.refl _ _).alloc (Nat.le_refl _) _).alloc (by simp) _
    refine ⟨_, Lib.hid rfl, Lib.hid (by simp), Lib.hid (hB1.alloc (by simp; omega) _), Lib.hid (((Cells.newD _ #[Value.string ⟨#[]⟩, .int .i64 0, .slice none 0 0] _).alloc _).alloc _), Lib.hid ?_, Lib.hid ?_⟩
    · rw [z1]; exact (Cells.newD _ #[Value.string ⟨#[]⟩, .string ⟨#[]⟩] _).alloc _
    · have := Cur.new (c := c) ((h.below hB1 (Nat.le_refl _)).more hB1.size) hb hl 84
      rw [z2] at this
      exact this
  have hWs1 : w.heap.size + 3 = W0.heap.size := hWs.out.symm
  obtain ⟨g, hg⟩ : ∃ g, Hid (w.heap.size + 2 = g) := ⟨_, Lib.hid rfl⟩
  have hge := hg.out
  rw [hg.out] at HC0
  clear h hb
  go_enter Tryz.func137, Tryz.ntmps137
  go_upto_region 2 with fail
  rw [hWe.out]
  (try rw [hg.out])
  clear hWe
  go_upto_region 3 with (first | (go_at_call 143; refine (roundTouch_any g 0 W0 HC0.out (by omega)).mono ?_; rintro e w1 ⟨nm, n, x, A, c, b, s, t, rfl, hok, hxc, hbb, hss, htt, ho, hc, ht⟩; have HOK := Lib.hid hok; have Hb := Lib.hid hbb; have Hs := Lib.hid hss; have Ht := Lib.hid htt; have HO1 := Lib.hid ho; have HC1 := Lib.hid hc; have HT1 := Lib.hid ht; have hz1 := ht.size; clear hok hbb hss htt ho hc ht) | fail)
  obtain ⟨V, hVe, hVb, hM, hKc, hVs⟩ : ∃ V : World, Hid (((w1.alloc (.cells #[Value.string nm, .int .i64 n, .slice A x.length c] 26)).alloc (.cells #[Value.string b, .string s] 28)) = V) ∧ Hid (Below w1.heap.size w1 V) ∧ Hid (Cells V w1.heap.size 3 (fun i => (#[Value.string nm, .int .i64 n, .slice A x.length c] : Array Value).getD i undef)) ∧ Hid (Cells V (w1.heap.size + 1) 2 (fun i => (#[Value.string b, .string s] : Array Value).getD i undef)) ∧ w1.heap.size + 2 ≤ V.heap.size := by
    have z1 : w1.heap.size + 1 = (w1.alloc (.cells #[Value.string nm, .int .i64 n, .slice A x.length c] 26)).heap.size := by simp
    refine ⟨_, Lib.hid rfl, Lib.hid (((Below.refl _ _).alloc (Nat.le_refl _) _).alloc (by simp) _), Lib.hid ?_, Lib.hid ?_, by simp⟩
    · exact (Cells.newD _ #[Value.string nm, .int .i64 n, .slice A x.length c] _).alloc _
    · rw [z1]; exact Cells.newD _ #[Value.string b, .string s] _
  rw [hVe.out]
  clear hVe
  obtain ⟨bm, hbm⟩ : ∃ bm, Hid (w1.heap.size = bm) := ⟨_, Lib.hid rfl⟩
  rw [hbm.out] at hM hKc hVs ⊢
  have hbe := hbm.out
  have HCV := Lib.hid (HC1.out.later hVb.out)
  have HOV := Lib.hid (HO1.out.later hVb.out)
  have HTV := Lib.hid (HT1.out.then hVb.out)
  have HRV := Lib.hid ((hR.out.turn HT1.out (.inl (by omega))).later hVb.out)
  have HQV := Lib.hid ((hQ.out.turn HT1.out (.inl (by omega))).later hVb.out)
  have hgm : g + 1 ≤ bm := by omega
  have HMK : Hid (∀ W, Turn g V W → MkOk ⟨nm, n, x, A, c⟩ b s W) := Lib.hid fun W ht => ⟨((HOV.out.turn ht (.inr (by omega)))).rd encString_len, Nat.le_trans HOK.out.wd.2.2 (by omega), Nat.le_trans HOK.out.x9 (by omega), fun y hy => by have := (HOK.out.ch y hy).size; unfold String_small; omega, Hb.out, Hs.out, hxc⟩
  have u0 := hM.out.cell (i := 0) (by omega)
  have u1 := hM.out.cell (i := 1) (by omega)
  have u2 := hM.out.cell (i := 2) (by omega)
  have u3 := hKc.out.cell (i := 0) (by omega)
  have u4 := hKc.out.cell (i := 1) (by omega)
  have HPk : Hid (∀ W, Below V.heap.size V W → Calls Tryz.prog 53 #[.pointer (some ⟨g, 0, none⟩), .int .i64 3] W fun e w' => ∃ v, e = .returned v ∧ ∃ y : Int, v = .int .i64 y ∧ 0 ≤ y ∧ y < 3 ∧ Cur w' g 2002 ∧ Turn g V w') := Lib.hid fun W hb => by
    have := pick_any g 2000 3 W (HCV.out.later hb) (by omega) (by omega)
    exact this.mono fun e w' ⟨y, he, h0, h1, hc, ht⟩ => ⟨_, he, y, rfl, h0, by omega, hc, (Turn.of hb).trans ht⟩
  go_region_law (first
    | (refine step_callsX (by rfl) 53 (by rfl) #[.pointer (some ⟨g, 0, none⟩), .int .i64 3] (by go_simp) (HPk.out _ (by repeat (first | exact Below.refl _ _ | refine Below.drew ?_ | refine Below.alloc ?_ (Nat.le_refl _) _))) ?_; rintro v wA ⟨y, rfl, hy0, hy3, hcA, htA⟩; have HTA := Lib.hid htA; have HCA := Lib.hid hcA; have hzA := htA.size; have HMA := Lib.hid (hM.out.turn htA (.inr hgm)); have m0 := HMA.out.cell (i := 0) (by omega); have m1 := HMA.out.cell (i := 1) (by omega); have m2 := HMA.out.cell (i := 2) (by omega); have HKA := Lib.hid (hKc.out.turn htA (.inr (by omega))); have k0 := HKA.out.cell (i := 0) (by omega); have k1 := HKA.out.cell (i := 1) (by omega); have hy1 : IntKind.i64.wrap ((1 : Int) + y) = 1 + y := IntWalk.i64_in _ (by omega); have HSF : Hid (∀ W, Below wA.heap.size wA W → Calls Tryz.prog 38 #[.agg #[Value.string nm, .int .i64 n, .slice A x.length c], .agg #[Value.string b, .string s], .string t, .int .i64 (1 + y)] W fun e w' => ∃ v, e = .returned v ∧ ∃ (r : List Spk) (ok : Bool) (A5 : Option Addr) (c5 : Nat), v = .tuple #[.slice A5 r.length c5, .bool ok] ∧ r.length ≤ 63 ∧ r.length ≤ c5 ∧ OwnL w' wA.heap.size w'.heap.size A5 2 Spk.enc r ∧ Below wA.heap.size wA w') := Lib.hid (fun W hb => (sSpokenForC_any ⟨nm, n, x, A, c⟩ b s t (1 + y) W (HMK.out W (HTA.out.then hb)) Ht.out).mono fun e w' ⟨A5, c5, h1, h2, h3, h4⟩ => ⟨_, h1, _, _, A5, c5, rfl, sayR_le, h2, h3.mono hb.size (Nat.le_refl _), hb.trans (h4.mono hb.size)⟩); clear hcA htA HPk)
    | (refine step_callsX (by rfl) 38 (by rfl) #[.agg #[Value.string nm, .int .i64 n, .slice A x.length c], .agg #[Value.string b, .string s], .string t, .int .i64 (1 + y)] (by go_simp) (HSF.out _ (by repeat (first | exact Below.refl _ _ | refine Below.drew ?_ | refine Below.alloc ?_ (Nat.le_refl _) _))) ?_; rintro v wB ⟨r, ok, A5, c5, rfl, hr63, hrc, hoB, hbB⟩; have HoB := Lib.hid hoB; have HTB := Lib.hid (HTA.out.then hbB); have HCB := Lib.hid (HCA.out.later hbB); have hzB := hbB.size; clear hoB hbB HSF)
    | fail)
  all_goals
    clear u0 u1 u2 u3 u4
    (try clear m0 m1 m2 k0 k1)
    go_upto_region 6 with (first
      | (go_at_call 55; refine (one_any g 2002 2 wB HCB.out (by omega) (by omega)).mono ?_; rintro e w4 ⟨b4, rfl, hc4, ht4⟩; have HC4 := Lib.hid hc4; have HT4 := Lib.hid (HTB.out.trans ht4); have HO4 := Lib.hid (HoB.out.turn ht4 (.inr (by omega))); have hz4 := ht4.size; clear hc4 ht4; cases b4)
      | (go_at_call 95; refine (spoken_any g 2004 r A5 c5 w4 HC4.out (by omega) (HO4.out.rd Spk_enc_len) hr63).mono ?_; rintro e w5 ⟨o, A6, c6, rfl, ho1, ho2, hrd, hc5, ht5⟩; have HRd := Lib.hid hrd; have HT5 := Lib.hid (HT4.out.trans ht5); have hz5 := ht5.size; clear hrd hc5 ht5)
      | fail)
    · have hzF := (HT4.out).size
      have hMF := hM.out.turn HT4.out (.inr hgm)
      have hKF := hKc.out.turn HT4.out (.inr (by omega))
      have m0 := hMF.cell (i := 0) (by omega)
      have m1 := hMF.cell (i := 1) (by omega)
      have m2 := hMF.cell (i := 2) (by omega)
      have k0 := hKF.cell (i := 0) (by omega)
      have k1 := hKF.cell (i := 1) (by omega)
      have hRx := (HRV.out.turn HT4.out (.inl (by omega))); have hQx := (HQV.out.turn HT4.out (.inl (by omega))); have r0 := hRx.cell (i := 0) (by omega); have r1 := hRx.cell (i := 1) (by omega); have r2 := hRx.cell (i := 2) (by omega); have rf0 := hRx.free (i := 0) (by omega); have rf1 := hRx.free (i := 1) (by omega); have rf2 := hRx.free (i := 2) (by omega); have q0 := hQx.cell (i := 0) (by omega); have q1 := hQx.cell (i := 1) (by omega); have qf0 := hQx.free (i := 0) (by omega); have qf1 := hQx.free (i := 1) (by omega); clear hRx hQx
      clear hMF hKF
      go_region_law (first | fail)
      all_goals
        go_wp2
        refine bodyPost_ret (v := .tuple #[.agg #[Value.string nm, .int .i64 n, .slice A x.length c], .agg #[Value.string b, .string s], .slice A5 r.length c5]) (by simp [results, Tryz.results137, go_sem, r0, r1, r2, rf0, rf1, rf2, q0, q1, qf0, qf1]) rfl ?_
        clear r0 r1 r2 rf0 rf1 rf2 q0 q1 qf0 qf1 m0 m1 m2 k0 k1
        have key : ∀ w9, Chg w.heap.size (w.heap.size + 2) w4 w9 → TsDrawn w (.returned (.tuple #[.agg #[Value.string nm, .int .i64 n, .slice A x.length c], .agg #[Value.string b, .string s], .slice A5 r.length c5])) w9 := fun w9 kc => by
          have hO := (HOV.out.turn HT4.out (.inr (by omega))).chg kc (.inr (by omega))
          refine ⟨⟨nm, n, x, A, c⟩, b, s, r, A5, c5, rfl, hr63, hrc, fun W' kW => ⟨⟨((hO.chg kW (.inr (by omega))).rd encString_len), Nat.le_trans HOK.out.wd.2.2 (by omega), Nat.le_trans HOK.out.x9 (by omega), fun y hy => by have := (HOK.out.ch y hy).size; unfold String_small; omega, Hb.out, Hs.out, hxc⟩, (fun W' kW => (HO4.out.chg kW (.inr (by omega))).rd Spk_enc_len) W' ((kc.mono (Nat.zero_le _) (Nat.le_refl _)).trans (kW.mono (Nat.le_refl _) (by omega)))⟩, ?_⟩
          exact Below.chg (Below.chg hWb.out (HTV.out.trans HT4.out) (by omega) (by omega)) kc (Nat.le_refl _) (by omega)
        refine key _ ?_
        repeat (first | (with_reducible exact Chg.refl _ _ _) | (with_reducible refine Chg.setCell ?_ (by simp) (by simp) _) | (with_reducible refine Chg.drewH ?_))
    · have hzF := (HT5.out).size
      have hMF := hM.out.turn HT5.out (.inr hgm)
      have hKF := hKc.out.turn HT5.out (.inr (by omega))
      have m0 := hMF.cell (i := 0) (by omega)
      have m1 := hMF.cell (i := 1) (by omega)
      have m2 := hMF.cell (i := 2) (by omega)
      have k0 := hKF.cell (i := 0) (by omega)
      have k1 := hKF.cell (i := 1) (by omega)
      have hRx := (HRV.out.turn HT5.out (.inl (by omega))); have hQx := (HQV.out.turn HT5.out (.inl (by omega))); have r0 := hRx.cell (i := 0) (by omega); have r1 := hRx.cell (i := 1) (by omega); have r2 := hRx.cell (i := 2) (by omega); have rf0 := hRx.free (i := 0) (by omega); have rf1 := hRx.free (i := 1) (by omega); have rf2 := hRx.free (i := 2) (by omega); have q0 := hQx.cell (i := 0) (by omega); have q1 := hQx.cell (i := 1) (by omega); have qf0 := hQx.free (i := 0) (by omega); have qf1 := hQx.free (i := 1) (by omega); clear hRx hQx
      clear hMF hKF
      go_region_law (first | fail)
      all_goals
        go_wp2
        refine bodyPost_ret (v := .tuple #[.agg #[Value.string nm, .int .i64 n, .slice A x.length c], .agg #[Value.string b, .string s], .slice A6 o.length c6]) (by simp [results, Tryz.results137, go_sem, r0, r1, r2, rf0, rf1, rf2, q0, q1, qf0, qf1]) rfl ?_
        clear r0 r1 r2 rf0 rf1 rf2 q0 q1 qf0 qf1 m0 m1 m2 k0 k1
        have key : ∀ w9, Chg w.heap.size (w.heap.size + 2) w5 w9 → TsDrawn w (.returned (.tuple #[.agg #[Value.string nm, .int .i64 n, .slice A x.length c], .agg #[Value.string b, .string s], .slice A6 o.length c6])) w9 := fun w9 kc => by
          have hO := (HOV.out.turn HT5.out (.inr (by omega))).chg kc (.inr (by omega))
          refine ⟨⟨nm, n, x, A, c⟩, b, s, o, A6, c6, rfl, (Nat.le_trans ho1 hr63), ho2, fun W' kW => ⟨⟨((hO.chg kW (.inr (by omega))).rd encString_len), Nat.le_trans HOK.out.wd.2.2 (by omega), Nat.le_trans HOK.out.x9 (by omega), fun y hy => by have := (HOK.out.ch y hy).size; unfold String_small; omega, Hb.out, Hs.out, hxc⟩, (fun W' kW => HRd.out W' (kW.mono (Nat.le_refl _) (by omega))) W' ((kc.mono (Nat.zero_le _) (Nat.le_refl _)).trans (kW.mono (Nat.le_refl _) (by omega)))⟩, ?_⟩
          exact Below.chg (Below.chg hWb.out (HTV.out.trans HT5.out) (by omega) (by omega)) kc (Nat.le_refl _) (by omega)
        refine key _ ?_
        repeat (first | (with_reducible exact Chg.refl _ _ _) | (with_reducible refine Chg.setCell ?_ (by simp) (by simp) _) | (with_reducible refine Chg.drewH ?_))
end Go.Proofs.YtkegbbndmfnolaaGreatDoor
