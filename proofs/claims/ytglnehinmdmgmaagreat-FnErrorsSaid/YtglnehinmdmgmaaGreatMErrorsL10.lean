import Derived.Test.YtglnehinmdmgmaaGreatMErrorsL09
import Derived.Test.YtglnehinmdmgmaaGreatMErrorsL04
import Derived.Test.YtglnehinmdmgmaaGreatMErrorsL05
/-
  A drawn method.
-/
namespace Go.Proofs.YtglnehinmdmgmaaGreat
open Go.RowKit
set_option linter.unusedVariables false
set_option linter.unusedSimpArgs false
set_option maxRecDepth 100000

/-- What a drawn method is. -/
structure MthOk (nm : ByteArray) (n : Int) (x : List ByteArray) : Prop where
  n3 : 3 ≤ n
  n6 : n ≤ 6
  wd : isWordP nm
  x0 : 0 < x.length
  x9 : x.length ≤ 12
  ch : ∀ s ∈ x, changeP n s
def wordB (s : ByteArray) : Bool := s.data.toList.all (fun b => decide (97 ≤ b.toNat) && decide (b.toNat ≤ 122)) && (decide (1 ≤ s.size) && decide (s.size ≤ 10))
theorem word_lit (s : ByteArray) (h : wordB s = true) : isWordP s := by
  unfold wordB at h
  simp only [Bool.and_eq_true, decide_eq_true_eq, List.all_eq_true] at h
  refine ⟨fun i hi => ?_, h.2⟩
  have hl : i < s.data.toList.length := hi
  have := h.1 _ (List.getElem_mem hl)
  unfold wordByte bat
  rw [Int.toNat_natCast, List.getD_eq_getElem?_getD, List.getElem?_eq_getElem hl]
  simp only [Option.getD_some]
  omega
/-- A change, by a test. -/
def chB (n : Int) (c : ByteArray) : Bool :=
  (decide (3 ≤ n) && decide (n ≤ 8)) && ((decide (c.data.toList = [45]) && decide (n % 2 = 0)) || (!decide (c.data.toList = [45]) && (decide (0 < c.size) && (decide ((c.size : Int) ≤ n - 2) && ((List.range c.size).all (fun i => decide (dgP c i < dg c i) && (decide (dg c i ≤ n) && decide ((dg c i - dgP c i) % 2 ≠ 0))) && decide ((n - dgP c c.size) % 2 = 0))))))
theorem chB_ok {n : Int} {c : ByteArray} (h : chB n c = true) : changeP n c := by
  unfold chB at h
  simp only [Bool.and_eq_true, Bool.or_eq_true, decide_eq_true_eq, Bool.not_eq_true', decide_eq_false_iff_not, List.all_eq_true, List.mem_range] at h
  refine ⟨h.1, ?_⟩
  rcases h.2 with ⟨h1, h2⟩ | ⟨h1, h2, h3, h4, h5⟩
  · exact .inl ⟨ByteArray.ext (Array.ext' h1), h2⟩
  · exact .inr ⟨fun e => h1 (by rw [e]; rfl), h2, h3, h4, h5⟩
theorem Chg.ofB {b : Nat} {w w' : World} (h : Below b w w') : Chg b w.heap.size w w' := ⟨h.os, h.tape, h.output, h.size, fun k hk hr => h.block k (by omega)⟩

theorem l1OwnSG_any (l : List ByteArray) (A : Option Addr) (c : Nat) (w : World) (h : RdL w w.heap.size A 1 encString l) (hl : l.length ≤ 1048576) (h0 : 0 < l.length) :
    Calls Tryz.prog 66 #[.slice A l.length c] w fun e w' => ∃ v, e = .returned v ∧ Grow w' w.heap.size 9 1 encString v l ∧ Below w.heap.size w w' := by
  have hq : ∀ (w : World) (a : Option Addr) (n c : Nat), (binOp .eql 25 (.slice a n c) (.slice none 0 0)).run Tryz.prog w = .ok (.bool a.isNone) w := fun w a n c => Lib.run_eql_slice_nil w _ 9 a n c 0 0 rfl
  obtain ⟨g, off, hA, _, _⟩ := h.at h0
  subst hA
  have H := Lib.hid h
  clear h
  go_enter Tryz.func66, Tryz.ntmps66
  go_wp2_with (at_builtin; refine wpList_pushAll rfl _ _ 25 rfl w.heap.size 9 _ 1 16 encString rfl String_info rfl (by omega) _ [] l _ _ w.heap.size rfl rfl (H.out.below ((Below.refl _ _).alloc (Nat.le_refl _) _) (Nat.le_refl _)) h0 (Grow.empty (Nat.le_refl _)) encString_len (by simp [encString, Value.oneCell']) (by first | (simp; done) | (simp; omega)) (by omega) (by simp) ?_; intro v' w2 hg2 hb2 hgb)
  go_ret
  exact ⟨v', rfl, hg2, ((Below.refl _ _).alloc (Nat.le_refl _) _).trans hb2⟩
set_option maxHeartbeats 1600000 in
theorem l4Hunting_any (n : Int) (last : ByteArray) (w : World) (P : ByteArray → Prop) (h3 : 3 ≤ n) (h9 : n ≤ 9) (he : n % 2 = 0 → P dash ∧ P (⟨#[49]⟩ ++ mkS [48 + n])) (ho : n % 2 = 1 → P (mkS [48 + n]) ∧ P ⟨#[49]⟩) (hl : P last) :
    Calls Tryz.prog 86 #[.int .i64 n, .string last] w fun e w' => ∃ (x : List ByteArray) (A : Option Addr) (c : Nat), e = .returned (.slice A x.length c) ∧ (x.length : Int) = 2 * n ∧ x.length ≤ c ∧ (∀ s ∈ x, P s) ∧ OwnL w' w.heap.size w'.heap.size A 1 encString x ∧ Below w.heap.size w w' := by
  obtain ⟨NU, hNU⟩ : ∃ N, Hid (mkS [48 + n] = N) := ⟨_, Lib.hid rfl⟩
  have hn1 : NU.size = 1 := by rw [← hNU.out, size_mkS]; rfl
  have Hnum : Hid (∀ W, Calls Tryz.prog 85 #[.int .i64 n] W fun e w' => e = .returned (.string NU) ∧ Below W.heap.size W w') := Lib.hid fun W => by
    have := l1NumD_any n W (by omega) h9; rw [hNU.out] at this; exact this
  rw [hNU.out] at he ho
  have k1 : ¬ 9223372036854775807 < (⟨#[49]⟩ : ByteArray).size + NU.size := by rw [hn1]; decide
  have HL := Lib.hid hl
  have HE := Lib.hid he
  have HO := Lib.hid ho
  have hm : n.tmod 2 = n % 2 := Int.tmod_eq_emod_of_nonneg (by omega)
  clear hl he ho
  rcases (show n % 2 = 0 ∨ n % 2 = 1 by omega) with hp | hp
  · obtain ⟨p1, p2⟩ := HE.out hp
    have P1 := Lib.hid p1
    have P2 := Lib.hid p2
    have d1 : ((n.tmod 2) == 1) = false := by rw [hm, hp]; rfl
    have d2 : ((n % 2) == 1) = false := by rw [hp]; rfl
    obtain ⟨T, hT⟩ : ∃ T : ByteArray, Hid ((⟨#[49]⟩ ++ NU : ByteArray) = T) := ⟨_, Lib.hid rfl⟩
    rw [hT.out] at P2
    obtain ⟨O, hO⟩ : ∃ O : ByteArray, Hid ((⟨#[45]⟩ : ByteArray) = O) := ⟨_, Lib.hid rfl⟩
    have P1' : Hid (P O) := Lib.hid (by rw [← hO.out]; exact P1.out)
    clear p1 p2 P1 hp hm
    go_enter Tryz.func86, Tryz.ntmps86
    go_wp2_with (go_at_call 85; refine (Hnum.out _).mono ?_; rintro e w1 ⟨rfl, hb1⟩; have HB1 := Lib.hid hb1; clear hb1)
    rw [hT.out, hO.out]
    have hz1 := HB1.out.size
    have Hone : Hid (∀ x y : ByteArray, ∀ u ∈ [Value.string x, .string y], u.oneCell' = true) := Lib.hid (by intro x y u hu; simp at hu; rcases hu with rfl | rfl <;> rfl)
    go_loopw [7, 8] (fun v i wr => ∃ (k : Nat) (x : List ByteArray), i = .int .i64 (k : Int) ∧ (k : Int) ≤ n ∧ x.length = 2 * k ∧ Hid (∀ s ∈ x, P s) ∧ Grow wr w1.heap.size 9 1 encString v x ∧ Below w1.heap.size w1 wr) (fun _ i _ => 9 - (intOf i).toNat)
    case atStart => exact ⟨0, [], by rfl, by omega, rfl, Lib.hid (by simp), Grow.nil, Below.refl _ _⟩
    case round =>
      obtain ⟨k, x, rfl, hk, hx, hP, hg, hbl⟩ := hrel
      have HG := Lib.hid hg
      have HB := Lib.hid hbl
      have hzr := hbl.size
      have hx18 : x.length ≤ 18 := by omega
      have HX := Lib.hid hx
      clear hg hbl hx
      by_cases hlt : (k : Int) < n
      · go_wp2_with (at_builtin; refine wpList_pushA rfl (.tmp 22) (.tmp 25) 25 rfl w1.heap.size 9 _ 1 16 encString rfl String_info rfl (by omega) _ x [O, T] 2 rfl rfl (by simp) HG.out rfl encString_len (Hone.out O T) (by simp only [List.length_cons, List.length_nil]; omega) (by omega) (by omega) ?_; intro v6 w6 g6 b6 gb6 k6; have HG6 := Lib.hid g6; have HB6 := Lib.hid b6; clear g6 b6 gb6 k6)
        go_roundw
        case rel => exact ⟨k + 1, x ++ [O, T], by go_num, by omega, (by have := HX.out; simp; omega), Lib.hid (fun s hs => by
          rcases List.mem_append.1 hs with hs | hs
          · exact hP.out s hs
          · rcases List.mem_cons.1 hs with rfl | hs
            · exact P1'.out
            · rw [List.mem_singleton.1 hs]; exact P2.out), HG6.out, HB.out.trans HB6.out⟩
        case measure => simp [intOf]; omega
      · have hkn : (k : Int) = n := by omega
        have hx0 : 0 < x.length := by have := HX.out; omega
        have HX2 : Hid ((x.length : Int) = 2 * n) := Lib.hid (by have := HX.out; omega)
        obtain ⟨gq, cap, hv, hq1, hq2, hq3⟩ := HG.out.some_ hx0
        subst hv
        obtain ⟨m, hm⟩ : ∃ m, x.length = m + 1 := ⟨x.length - 1, by omega⟩
        obtain ⟨q0, f0⟩ := HG.out.cellS m (by omega)
        have HS := Lib.hid (HG.out.stored rfl encString_len (x := last) (u := .string last) rfl m)
        have HSl : Hid ((x.set m last).length = x.length) := Lib.hid (by simp)
        have HSp : Hid (∀ s ∈ x.set m last, P s) := Lib.hid (fun s hs => by
          rcases List.mem_or_eq_of_mem_set hs with hs | rfl
          · exact hP.out s hs
          · exact HL.out)
        have HSb : Hid (Below w1.heap.size wr (wr.setCell ⟨gq, m, none⟩ (.string last))) := Lib.hid ((Below.refl _ _).setCell (p := ⟨gq, m, none⟩) hq1 _)
        generalize x.set m last = x2 at *
        generalize x[m] = xm at *
        obtain ⟨L, hL⟩ : ∃ L, Hid (x.length = L) := ⟨_, Lib.hid rfl⟩
        have hLm : Hid (L = m + 1) := Lib.hid (by rw [← hL.out]; exact hm)
        clear hm hx0 hkn HG hk
        rw [hL.out] at hx18 hq3 HX2 HSl HS ⊢
        have hLi : IntKind.i64.wrap ((L : Int) - 1) = (m : Int) := by have := hLm.out; rw [IntWalk.i64_in _ (by omega)]; omega
        have hmL : m < L := by have := hLm.out; omega
        go_wp2
        go_ret
        refine ⟨x2, some ⟨gq, 0, none⟩, cap, by rw [HSl.out]; rfl, by rw [HSl.out]; exact HX2.out, by rw [HSl.out]; exact hq3, HSp.out, ?_, HB1.out.trans ((HB.out.trans HSb.out).mono hz1)⟩
        obtain ⟨A2, c2, e2, o2⟩ := HS.out.own encString_len
        injection e2 with e2 _ _
        rw [e2]; exact o2.mono hz1 (Nat.le_refl _)
  · obtain ⟨p1, p2⟩ := HO.out hp
    have P1' := Lib.hid p1
    have P2 := Lib.hid p2
    have d1 : ((n.tmod 2) == 1) = true := by rw [hm, hp]; rfl
    have d2 : ((n % 2) == 1) = true := by rw [hp]; rfl
    obtain ⟨T, hT⟩ : ∃ T : ByteArray, Hid ((⟨#[49]⟩ : ByteArray) = T) := ⟨_, Lib.hid rfl⟩
    rw [hT.out] at P2
    obtain ⟨O, hO⟩ : ∃ O : ByteArray, Hid (NU = O) := ⟨_, Lib.hid rfl⟩
    rw [hO.out] at P1'
    clear p1 p2 hp hm
    go_enter Tryz.func86, Tryz.ntmps86
    go_wp2_with (first | (go_at_call 85; refine (Hnum.out w).mono ?_; rintro e w0 ⟨rfl, hb0⟩; have HB0 := Lib.hid hb0; clear hb0) | (go_at_call 85; refine (Hnum.out w0).mono ?_; rintro e w1 ⟨rfl, hb1⟩; have HB1 := Lib.hid (HB0.out.trans (hb1.mono HB0.out.size)); clear hb1))
    rw [hT.out, hO.out]
    have hz1 := HB1.out.size
    have Hone : Hid (∀ x y : ByteArray, ∀ u ∈ [Value.string x, .string y], u.oneCell' = true) := Lib.hid (by intro x y u hu; simp at hu; rcases hu with rfl | rfl <;> rfl)
    go_loopw [7, 8] (fun v i wr => ∃ (k : Nat) (x : List ByteArray), i = .int .i64 (k : Int) ∧ (k : Int) ≤ n ∧ x.length = 2 * k ∧ Hid (∀ s ∈ x, P s) ∧ Grow wr w1.heap.size 9 1 encString v x ∧ Below w1.heap.size w1 wr) (fun _ i _ => 9 - (intOf i).toNat)
    case atStart => exact ⟨0, [], by rfl, by omega, rfl, Lib.hid (by simp), Grow.nil, Below.refl _ _⟩
    case round =>
      obtain ⟨k, x, rfl, hk, hx, hP, hg, hbl⟩ := hrel
      have HG := Lib.hid hg
      have HB := Lib.hid hbl
      have hzr := hbl.size
      have hx18 : x.length ≤ 18 := by omega
      have HX := Lib.hid hx
      clear hg hbl hx
      by_cases hlt : (k : Int) < n
      · go_wp2_with (at_builtin; refine wpList_pushA rfl (.tmp 22) (.tmp 25) 25 rfl w1.heap.size 9 _ 1 16 encString rfl String_info rfl (by omega) _ x [O, T] 2 rfl rfl (by simp) HG.out rfl encString_len (Hone.out O T) (by simp only [List.length_cons, List.length_nil]; omega) (by omega) (by omega) ?_; intro v6 w6 g6 b6 gb6 k6; have HG6 := Lib.hid g6; have HB6 := Lib.hid b6; clear g6 b6 gb6 k6)
        go_roundw
        case rel => exact ⟨k + 1, x ++ [O, T], by go_num, by omega, (by have := HX.out; simp; omega), Lib.hid (fun s hs => by
          rcases List.mem_append.1 hs with hs | hs
          · exact hP.out s hs
          · rcases List.mem_cons.1 hs with rfl | hs
            · exact P1'.out
            · rw [List.mem_singleton.1 hs]; exact P2.out), HG6.out, HB.out.trans HB6.out⟩
        case measure => simp [intOf]; omega
      · have hkn : (k : Int) = n := by omega
        have hx0 : 0 < x.length := by have := HX.out; omega
        have HX2 : Hid ((x.length : Int) = 2 * n) := Lib.hid (by have := HX.out; omega)
        obtain ⟨gq, cap, hv, hq1, hq2, hq3⟩ := HG.out.some_ hx0
        subst hv
        obtain ⟨m, hm⟩ : ∃ m, x.length = m + 1 := ⟨x.length - 1, by omega⟩
        obtain ⟨q0, f0⟩ := HG.out.cellS m (by omega)
        have HS := Lib.hid (HG.out.stored rfl encString_len (x := last) (u := .string last) rfl m)
        have HSl : Hid ((x.set m last).length = x.length) := Lib.hid (by simp)
        have HSp : Hid (∀ s ∈ x.set m last, P s) := Lib.hid (fun s hs => by
          rcases List.mem_or_eq_of_mem_set hs with hs | rfl
          · exact hP.out s hs
          · exact HL.out)
        have HSb : Hid (Below w1.heap.size wr (wr.setCell ⟨gq, m, none⟩ (.string last))) := Lib.hid ((Below.refl _ _).setCell (p := ⟨gq, m, none⟩) hq1 _)
        generalize x.set m last = x2 at *
        generalize x[m] = xm at *
        obtain ⟨L, hL⟩ : ∃ L, Hid (x.length = L) := ⟨_, Lib.hid rfl⟩
        have hLm : Hid (L = m + 1) := Lib.hid (by rw [← hL.out]; exact hm)
        clear hm hx0 hkn HG hk
        rw [hL.out] at hx18 hq3 HX2 HSl HS ⊢
        have hLi : IntKind.i64.wrap ((L : Int) - 1) = (m : Int) := by have := hLm.out; rw [IntWalk.i64_in _ (by omega)]; omega
        have hmL : m < L := by have := hLm.out; omega
        go_wp2
        go_ret
        refine ⟨x2, some ⟨gq, 0, none⟩, cap, by rw [HSl.out]; rfl, by rw [HSl.out]; exact HX2.out, by rw [HSl.out]; exact hq3, HSp.out, ?_, HB1.out.trans ((HB.out.trans HSb.out).mono hz1)⟩
        obtain ⟨A2, c2, e2, o2⟩ := HS.out.own encString_len
        injection e2 with e2 _ _
        rw [e2]; exact o2.mono hz1 (Nat.le_refl _)











set_option maxHeartbeats 6400000 in
theorem method_any (g K : Nat) (w : World) (h : Cur w g K) (hK : K ≤ 10000000) :
    Calls Tryz.prog 64 #[.pointer (some ⟨g, 0, none⟩)] w fun e w' => ∃ nm n x A c, e = .returned (.agg #[.string nm, .int .i64 n, .slice A x.length c]) ∧ MthOk nm n x ∧ x.length ≤ c ∧ OwnL w' w.heap.size w'.heap.size A 1 encString x ∧ Cur w' g (K + 100) ∧ Turn g w w' := by
  have H := Lib.hid h
  have hgw := h.lt
  clear h
  have hW : ∃ W0 : World, Hid (w.alloc (.cells #[.string ⟨#[]⟩, .int .i64 0, .slice none 0 0] 91) = W0) ∧ Hid (W0.heap.size = w.heap.size + 1) ∧ Hid (Below w.heap.size w W0) ∧ Hid (Cells W0 w.heap.size 3 (fun i => (#[Value.string ⟨#[]⟩, .int .i64 0, .slice none 0 0] : Array Value).getD i undef)) :=
    ⟨_, Lib.hid rfl, Lib.hid (by simp), Lib.hid ((Below.refl _ _).alloc (Nat.le_refl _) _), Lib.hid (Cells.lit w _ _ 3 rfl)⟩
  obtain ⟨W0, hWe, hWs, hWb, hR⟩ := hW
  have hWs1 : w.heap.size + 1 ≤ W0.heap.size := by have := hWs.out; omega
  have HC0 := Lib.hid (H.out.later hWb.out)
  go_enter Tryz.func64, Tryz.ntmps64
  go_upto_region 1 with fail
  rw [hWe.out]
  clear hWe
  go_upto_region 7 with (first
    | (go_at_call 47; refine (among_any g K W0.heap.size 6 6 _ (fun x => 3 ≤ x ∧ x ≤ 6) _ (HC0.out.later ((Below.refl _ _).alloc (Nat.le_refl _) _)) (by omega) (by omega) (by omega) (Cells.lit W0 _ _ 6 rfl) (by omega) (by intro k hk; rcases k with _ | _ | _ | _ | _ | _ | k <;> first | exact ⟨_, rfl, by omega⟩ | omega)).mono ?_; rintro e w1 ⟨n, rfl, hn, hc, ht⟩; have HC1 := Lib.hid hc; have HT1 := Lib.hid ((Turn.of ((Below.refl _ _).alloc (Nat.le_refl _) _)).trans ht); clear hc ht; have hz1 := HT1.out.size)
    | (go_at_call 84; refine (of_any g (K + 2) w1.heap.size 4 4 _ isWordP _ (HC1.out.later ((Below.refl _ _).alloc (Nat.le_refl _) _)) (by omega) (by omega) (by omega) (Cells.lit w1 _ _ 4 rfl) (by have := HC1.out.lt; omega) (by intro k hk; rcases k with _ | _ | _ | _ | k <;> first | exact ⟨_, rfl, word_lit _ (by decide +kernel)⟩ | omega)).mono ?_; rintro e w2 ⟨nm, rfl, hnm, hc, ht⟩; have HC2 := Lib.hid hc; have HT2 := Lib.hid (HT1.out.trans ((Turn.of ((Below.refl _ _).alloc (Nat.le_refl _) _)).trans ht)); clear hc ht; have hz2 := HT2.out.size))
  obtain ⟨bx, hbx⟩ : ∃ bx, Hid (w2.heap.size = bx) := ⟨_, Lib.hid rfl⟩
  rw [hbx.out]
  have hbz : W0.heap.size ≤ bx := by have := hbx.out; omega
  have hgx : g < bx := by omega
  obtain ⟨W5, hW5, C0, C1, C2, F2, HC5, HT5, hs5⟩ : ∃ W5 : World, Hid (w2.alloc (.cells #[.string nm, .int .i64 n, .slice none 0 0] 91) = W5) ∧ Hid (W5.cell? ⟨bx, 0, none⟩ = some (.string nm)) ∧ Hid (W5.cell? ⟨bx, 1, none⟩ = some (.int .i64 n)) ∧ Hid (W5.cell? ⟨bx, 2, none⟩ = some (.slice none 0 0)) ∧ Hid (W5.frozen? ⟨bx, 2, none⟩ = false) ∧ Hid (Cur W5 g (K + 4)) ∧ Hid (Turn g W0 W5) ∧ bx < W5.heap.size :=
    ⟨_, Lib.hid rfl, Lib.hid (by rw [← hbx.out, World.cell?_alloc_new]; rfl), Lib.hid (by rw [← hbx.out, World.cell?_alloc_new]; rfl), Lib.hid (by rw [← hbx.out, World.cell?_alloc_new]; rfl), Lib.hid (by rw [← hbx.out]; exact frozen_of_row _ _ _ _ _ (heap_alloc_new w2 _)), Lib.hid (HC2.out.later ((Below.refl _ _).alloc (Nat.le_refl _) _)), Lib.hid (HT2.out.then ((Below.refl _ _).alloc (Nat.le_refl _) _)), by rw [← hbx.out]; simp⟩
  rw [hW5.out]
  clear hW5 HC2 HT2 HC1 HT1 HC0
  have Hnm := Lib.hid hnm
  clear hnm
  obtain ⟨hn3, hn6⟩ := hn
  have HCH : Hid (∀ (W : World) (K' : Nat), Cur W g K' → K' ≤ 100000000 → Calls Tryz.prog 87 #[.pointer (some ⟨g, 0, none⟩), .int .i64 n] W fun e w' => ∃ v, e = .returned v ∧ ∃ s : ByteArray, v = .string s ∧ changeP n s ∧ Cur w' g (K' + 2) ∧ Turn g W w') := Lib.hid (fun W K' hc hk => by
    have hca := change_any g K' n.toNat W hc hk (by omega) (by omega)
    rw [show ((n.toNat : Nat) : Int) = n by omega] at hca
    exact hca.mono fun e w' ⟨s, he, hs, hc, ht⟩ => ⟨_, he, s, rfl, hs, hc, ht⟩)
  by_cases hn4 : 4 ≤ n
  · have d4 : decide (4 ≤ n) = true := decide_eq_true hn4
    go_upto_region 8 with (go_at_call 17; refine (one_any g (K + 4) 2 W5 HC5.out (by omega) (by omega)).mono ?_; rintro e w6 ⟨b6, rfl, hc6, ht6⟩; have HC6 := Lib.hid hc6; have HT6 := Lib.hid (HT5.out.trans ht6); have hz6 := ht6.size; have ht6s : bx < w6.heap.size := (by omega); have D0 := Lib.hid ((ht6.cell (p := ⟨bx, 0, none⟩) hs5 (by simp; omega)).trans C0.out); have D1 := Lib.hid ((ht6.cell (p := ⟨bx, 1, none⟩) hs5 (by simp; omega)).trans C1.out); have D2 := Lib.hid ((ht6.cell (p := ⟨bx, 2, none⟩) hs5 (by simp; omega)).trans C2.out); have E2 := Lib.hid ((frozen_of_turn ht6 hs5 (by omega) 2).trans F2.out); clear hc6 ht6; cases b6)
    · have HCw := HC6
      have HTw := HT6
      have hbw : bx < w6.heap.size := by have := HT6.out.size; have := ht6s; omega
      obtain ⟨wS, hwS⟩ : ∃ wS, wS = w6 := ⟨w6, rfl⟩
      subst hwS
      go_upto_region 13 with (go_at_call 17; refine (one_any g (K + 6) 2 wS HCw.out (by omega) (by omega)).mono ?_; rintro e w7 ⟨b7, rfl, hc7, ht7⟩; have HC7 := Lib.hid hc7; have HT7 := Lib.hid (HTw.out.trans ht7); have hz7 := ht7.size; have hb7 : bx < w7.heap.size := (by omega); have D0 := Lib.hid ((ht7.cell (p := ⟨bx, 0, none⟩) hbw (by simp; omega)).trans D0.out); have D1 := Lib.hid ((ht7.cell (p := ⟨bx, 1, none⟩) hbw (by simp; omega)).trans D1.out); have D2 := Lib.hid ((ht7.cell (p := ⟨bx, 2, none⟩) hbw (by simp; omega)).trans D2.out); have E2 := Lib.hid ((frozen_of_turn ht7 hbw (by omega) 2).trans E2.out); clear hc7 ht7; cases b7)
      · go_upto_region 4 with (go_at_call 48; refine (pick_any g (K + 8) 8 _ HC7.out (by omega) (by omega)).mono ?_; rintro e w8 ⟨x, rfl, hx0, hx1, hc8, ht8⟩; have HC8 := Lib.hid hc8; have HT8 := Lib.hid (HT7.out.trans ht8); have hz8 := ht8.size; have hb8 : bx < w8.heap.size := (by omega); have D0 := Lib.hid ((ht8.cell (p := ⟨bx, 0, none⟩) hb7 (by simp; omega)).trans D0.out); have D1 := Lib.hid ((ht8.cell (p := ⟨bx, 1, none⟩) hb7 (by simp; omega)).trans D1.out); have D2 := Lib.hid ((ht8.cell (p := ⟨bx, 2, none⟩) hb7 (by simp; omega)).trans D2.out); have E2 := Lib.hid ((frozen_of_turn ht8 hb7 (by omega) 2).trans E2.out); clear hc8 ht8; obtain ⟨q, rfl⟩ : ∃ q : Nat, x = (q : Int) := ⟨x.toNat, by omega⟩; have hq8 : q < 8 := (by omega))
        go_loopw [9] (fun i wr => ∃ (j : Nat) (A : Option Addr) (c : Nat) (x : List ByteArray), i = .int .i64 (j : Int) ∧ x.length + j ≤ 8 ∧ 1 ≤ x.length + j ∧ Hid (∀ s ∈ x, changeP n s) ∧ Hid (wr.cell? ⟨bx, 0, none⟩ = some (.string nm)) ∧ Hid (wr.cell? ⟨bx, 1, none⟩ = some (.int .i64 n)) ∧ Hid (wr.cell? ⟨bx, 2, none⟩ = some (.slice A x.length c)) ∧ Hid (wr.frozen? ⟨bx, 2, none⟩ = false) ∧ Hid (Grow wr (bx + 1) 9 1 encString (.slice A x.length c) x) ∧ Hid (Cur wr g (K + 10 + 2 * x.length)) ∧ Hid (Turn g W0 wr) ∧ bx < wr.heap.size) (fun i _ => (intOf i).toNat)
        case atStart => exact ⟨q + 1, none, 0, [], by go_num, by simp; omega, by simp, Lib.hid (by simp), D0, D1, D2, E2, Lib.hid Grow.nil, HC8, HT8, hb8⟩
        case round =>
          obtain ⟨j, A, c, x, rfl, hj8, hj1, hxP, D0, D1, D2, E2, HGx, HCx, HTx, hsx⟩ := hrel
          have d0 := D0.out
          have d1 := D1.out
          have d2 := D2.out
          have hx8 : x.length ≤ 8 := by omega
          by_cases hlt : 0 < j
          · have Ham : Hid (∀ W : World, Below wr.heap.size wr W → Calls Tryz.prog 87 #[.pointer (some ⟨g, 0, none⟩), .int .i64 n] W fun e w' => ∃ v, e = .returned v ∧ ∃ s : ByteArray, v = .string s ∧ changeP n s ∧ Cur w' g (K + 10 + 2 * x.length + 2) ∧ Turn g wr w') := Lib.hid (fun W hb => by
have hca := change_any g (K + 10 + 2 * x.length) n.toNat W (HCx.out.later hb) (by omega) (by omega) (by omega)
rw [show ((n.toNat : Nat) : Int) = n by omega] at hca
exact hca.mono fun e w' ⟨s, he, hs, hc, ht⟩ => ⟨_, he, s, rfl, hs, hc, (Turn.of hb).trans ht⟩)
            have Hone : Hid (∀ x : ByteArray, ∀ u ∈ [Value.string x], u.oneCell' = true) := Lib.hid (by intro x u hu; simp at hu; subst hu; rfl)
            go_upto_region 6 with fail
            go_region_law (first
              | (refine step_callsX (by rfl) 87 (by rfl) #[.pointer (some ⟨g, 0, none⟩), .int .i64 n] (by go_simp) (Ham.out _ (by repeat (first | exact Below.refl _ _ | refine Below.drew ?_ | refine Below.alloc ?_ (Nat.le_refl _) _))) ?_; rintro v w3 ⟨s, rfl, hs, hc3, ht3⟩; have Hs := Lib.hid hs; have HC3 := Lib.hid hc3; have HT3 := Lib.hid ht3; have hz3 := ht3.size; have q0 := (ht3.cell (p := ⟨bx, 0, none⟩) hsx (by simp; omega)).trans D0.out; have q1 := (ht3.cell (p := ⟨bx, 1, none⟩) hsx (by simp; omega)).trans D1.out; have q2 := (ht3.cell (p := ⟨bx, 2, none⟩) hsx (by simp; omega)).trans D2.out; have q3 : w3.frozen? ⟨bx, 2, none⟩ = false := (frozen_of_turn ht3 hsx (by omega) 2).trans E2.out; have q2a := (((Below.refl w3.heap.size w3).alloc (Nat.le_refl _) (.cells #[.string s] 9)).cell (p := ⟨bx, 2, none⟩) (show bx < w3.heap.size by omega)).trans q2; clear hs hc3 ht3)
              | (refine step_pushA rfl (.tmp 26) (.tmp 30) 25 rfl (bx + 1) 9 _ 1 16 encString rfl String_info rfl (by omega) (.slice A x.length c) x [s] 1 rfl rfl rfl (HGx.out.turn HT3.out (by omega)) rfl encString_len (Hone.out s) (by simp) (by simp only [List.length_singleton]; omega) (by omega) (by omega) ?_; intro v' w4 hg4 hb4 hgb4 hk4; have s0 := (hb4.cell (p := ⟨bx, 0, none⟩) (Nat.lt_succ_self _)).trans q0; have s1 := (hb4.cell (p := ⟨bx, 1, none⟩) (Nat.lt_succ_self _)).trans q1; have s2 := (hb4.cell (p := ⟨bx, 2, none⟩) (Nat.lt_succ_self _)).trans q2; have s3 := (hb4.frozen (p := ⟨bx, 2, none⟩) (Nat.lt_succ_self _)).trans q3; obtain ⟨A4, c4, hv4, _⟩ := hg4.own encString_len; subst hv4; have HG4 := Lib.hid hg4; have HB4 := Lib.hid hb4; clear hg4 hb4 hgb4 hk4))
            all_goals
              clear q2a
              go_wp2
              have HBs := Lib.hid ((Below.refl bx w4).setCell (p := ⟨bx, 2, none⟩) (Nat.le_refl _) (.slice A4 (x.length + 1) c4))
              have hxe : (x ++ [s]).length = x.length + 1 := by simp
              have HP4 : Hid (∀ q ∈ x ++ [s], changeP n q) := Lib.hid (fun q hq => by
                rcases List.mem_append.1 hq with hq | hq
                · exact hxP.out q hq
                · rw [List.mem_singleton.1 hq]; exact Hs.out)
              have S0 : Hid ((w4.setCell ⟨bx, 2, none⟩ (.slice A4 (x.length + 1) c4)).cell? ⟨bx, 0, none⟩ = some (.string nm)) := Lib.hid (by rw [World.cell?_setCell_other _ _ _ _ (fun e => by injection e with _ e; omega)]; exact s0)
              have S1 : Hid ((w4.setCell ⟨bx, 2, none⟩ (.slice A4 (x.length + 1) c4)).cell? ⟨bx, 1, none⟩ = some (.int .i64 n)) := Lib.hid (by rw [World.cell?_setCell_other _ _ _ _ (fun e => by injection e with _ e; omega)]; exact s1)
              have S2 : Hid ((w4.setCell ⟨bx, 2, none⟩ (.slice A4 (x.length + 1) c4)).cell? ⟨bx, 2, none⟩ = some (.slice A4 (x ++ [s]).length c4)) := Lib.hid (by rw [hxe]; exact World.cell?_setCell_same _ _ _ s2)
              have S3 : Hid ((w4.setCell ⟨bx, 2, none⟩ (.slice A4 (x.length + 1) c4)).frozen? ⟨bx, 2, none⟩ = false) := Lib.hid (by rw [World.frozen?_setCell]; exact s3)
              have HG5 := Lib.hid (HG4.out.set (p := ⟨bx, 2, none⟩) (Nat.lt_succ_self _) (.slice A4 (x.length + 1) c4))
              have HC5b := Lib.hid ((HC3.out.keep HB4.out (Nat.lt_succ_of_lt hgx)).keep HBs.out hgx)
              have HT5b := Lib.hid (((HTx.out.trans HT3.out).thenB (HB4.out.mono (by omega))).thenB (HBs.out.mono hbz))
              have hs5b : bx < (w4.setCell ⟨bx, 2, none⟩ (.slice A4 (x.length + 1) c4)).heap.size := by have := HB4.out.size; have := HBs.out.size; omega
              go_roundw
              case rel => exact ⟨j - 1, A4, c4, x ++ [s], by go_num, by simp; omega, by simp; omega, HP4, S0, S1, S2, S3, HG5, Lib.hid (HC5b.out.more (by simp; omega)), HT5b, hs5b⟩
              case measure => simp [intOf]; omega
          · obtain rfl : j = 0 := by omega
            have hx0 : 0 < x.length := by omega
            have HO : Hid (OwnL wr (bx + 1) (wr).heap.size A 1 encString x) := Lib.hid (by
              obtain ⟨A9, c9, e9, o9⟩ := HGx.out.own encString_len
              injection e9 with e9 _ _
              rw [e9]; exact o9)
            have hcap := HGx.out.capN
            have hcr := hR.out.chg HTx.out (.inr (by omega))
            have r0 := hcr.cell (i := 0) (by omega)
            have r1 := hcr.cell (i := 1) (by omega)
            have r2 := hcr.cell (i := 2) (by omega)
            have rf0 := hcr.free (i := 0) (by omega)
            have rf1 := hcr.free (i := 1) (by omega)
            have rf2 := hcr.free (i := 2) (by omega)
            have hsw : w.heap.size < (wr).heap.size := by omega
            clear hcr
            go_wp2
            refine bodyPost_ret (v := .agg #[.string nm, .int .i64 n, .slice A x.length c]) (by simp [results, Tryz.results64, go_sem, r0, r1, r2, rf0, rf1, rf2]) rfl ?_
            have kk : Chg w.heap.size (w.heap.size + 1) wr (setN wr w.heap.size 0 [Value.string nm, .int .i64 n, .slice A x.length c]) := Chg.setN (Nat.le_refl _) (Nat.lt_succ_self _) _ (Chg.refl _ _ wr)
            have kb : Below w.heap.size wr (setN wr w.heap.size 0 [Value.string nm, .int .i64 n, .slice A x.length c]) := Below.chg (Below.refl _ _) kk (Nat.le_refl _) (by omega)
            exact ⟨nm, n, x, A, c, rfl, ⟨hn3, hn6, Hnm.out, hx0, by omega, hxP.out⟩, hcap, (HO.out.chg kk (.inr (by omega))).mono (by omega) kk.size, (HCx.out.keep kb hgw).more (by omega), ((Turn.of hWb.out).trans HTx.out).thenB kb⟩
      · go_upto_region 15 with (go_at_call 48; refine (pick_any g (K + 8) 4 _ HC7.out (by omega) (by omega)).mono ?_; rintro e w8 ⟨x, rfl, hx0, hx1, hc8, ht8⟩; have HC8 := Lib.hid hc8; have HT8 := Lib.hid (HT7.out.trans ht8); have hz8 := ht8.size; have hb8 : bx < w8.heap.size := (by omega); have D0 := Lib.hid ((ht8.cell (p := ⟨bx, 0, none⟩) hb7 (by simp; omega)).trans D0.out); have D1 := Lib.hid ((ht8.cell (p := ⟨bx, 1, none⟩) hb7 (by simp; omega)).trans D1.out); have D2 := Lib.hid ((ht8.cell (p := ⟨bx, 2, none⟩) hb7 (by simp; omega)).trans D2.out); have E2 := Lib.hid ((frozen_of_turn ht8 hb7 (by omega) 2).trans E2.out); clear hc8 ht8; obtain ⟨q, rfl⟩ : ∃ q : Nat, x = (q : Int) := ⟨x.toNat, by omega⟩; have hq8 : q < 4 := (by omega))
        go_loopw [6, 7] (fun v i wr => ∃ (j : Nat) (xs : List ByteArray), i = .int .i64 (j : Int) ∧ xs.length + j ≤ 4 ∧ 1 ≤ xs.length + j ∧ Hid (∀ s ∈ xs, changeP n s) ∧ Hid (wr.cell? ⟨bx, 0, none⟩ = some (.string nm)) ∧ Hid (wr.cell? ⟨bx, 1, none⟩ = some (.int .i64 n)) ∧ Hid (wr.cell? ⟨bx, 2, none⟩ = some (.slice none 0 0)) ∧ Hid (wr.frozen? ⟨bx, 2, none⟩ = false) ∧ Hid (Grow wr (bx + 1) 9 1 encString v xs) ∧ Hid (Cur wr g (K + 10 + 2 * xs.length)) ∧ Hid (Turn g W0 wr) ∧ bx < wr.heap.size) (fun _ i _ => (intOf i).toNat)
        case atStart => exact ⟨q + 1, [], by go_num, by simp; omega, by simp, Lib.hid (by simp), D0, D1, D2, E2, Lib.hid Grow.nil, HC8, HT8, hb8⟩
        case round =>
          obtain ⟨j, xs, rfl, hj8, hj1, hxP, D0, D1, D2, E2, HGx, HCx, HTx, hsx⟩ := hrel
          have hx8 : xs.length ≤ 4 := by omega
          have Hone : Hid (∀ x : ByteArray, ∀ u ∈ [Value.string x], u.oneCell' = true) := Lib.hid (by intro x u hu; simp at hu; subst hu; rfl)
          have Ham : Hid (∀ W : World, Below wr.heap.size wr W → Calls Tryz.prog 87 #[.pointer (some ⟨g, 0, none⟩), .int .i64 n] W fun e w' => ∃ v, e = .returned v ∧ ∃ s : ByteArray, v = .string s ∧ changeP n s ∧ Cur w' g (K + 10 + 2 * xs.length + 2) ∧ Turn g wr w') := Lib.hid (fun W hb => by
          have hca := change_any g (K + 10 + 2 * xs.length) n.toNat W (HCx.out.later hb) (by omega) (by omega) (by omega)
          rw [show ((n.toNat : Nat) : Int) = n by omega] at hca
          exact hca.mono fun e w' ⟨s, he, hs, hc, ht⟩ => ⟨_, he, s, rfl, hs, hc, (Turn.of hb).trans ht⟩)
          by_cases hlt : 0 < j
          · go_wp2_with (first
              | (go_at_call 87; refine (Ham.out _ (Below.refl _ _)).mono ?_; rintro e w3 ⟨v, rfl, s, rfl, hs, hc3, ht3⟩; have Hs := Lib.hid hs; have HC3 := Lib.hid hc3; have HT3 := Lib.hid ht3; have hz3 := ht3.size; have hb3 : bx < w3.heap.size := (by omega); have D0 := Lib.hid ((ht3.cell (p := ⟨bx, 0, none⟩) hsx (by simp; omega)).trans D0.out); have D1 := Lib.hid ((ht3.cell (p := ⟨bx, 1, none⟩) hsx (by simp; omega)).trans D1.out); have D2 := Lib.hid ((ht3.cell (p := ⟨bx, 2, none⟩) hsx (by simp; omega)).trans D2.out); have E2 := Lib.hid ((frozen_of_turn ht3 hsx (by omega) 2).trans E2.out); clear hs hc3 ht3)
              | (at_builtin; refine wpList_pushA rfl (.tmp 60) (.tmp 64) 25 rfl (bx + 1) 9 _ 1 16 encString rfl String_info rfl (by omega) _ xs [s] 1 rfl rfl (by simp) (HGx.out.turn HT3.out (by omega)) rfl encString_len (Hone.out s) (by simp only [List.length_singleton]; omega) (by omega) (by omega) ?_; intro v4 w4 g4 b4 gb4 k4; have HG4 := Lib.hid g4; have HB4 := Lib.hid b4; have hz4 := b4.size; have D0 := Lib.hid ((b4.cell (p := ⟨bx, 0, none⟩) (Nat.lt_succ_self _)).trans D0.out); have D1 := Lib.hid ((b4.cell (p := ⟨bx, 1, none⟩) (Nat.lt_succ_self _)).trans D1.out); have D2 := Lib.hid ((b4.cell (p := ⟨bx, 2, none⟩) (Nat.lt_succ_self _)).trans D2.out); have E2 := Lib.hid ((b4.frozen (p := ⟨bx, 2, none⟩) (Nat.lt_succ_self _)).trans E2.out); clear g4 b4 gb4 k4))
            go_roundw
            case rel => exact ⟨j - 1, xs ++ [s], by go_num, by simp; omega, by simp; omega, Lib.hid (fun q hq => by
              rcases List.mem_append.1 hq with hq | hq
              · exact hxP.out q hq
              · rw [List.mem_singleton.1 hq]; exact Hs.out), D0, D1, D2, E2, HG4, Lib.hid ((HC3.out.keep HB4.out (Nat.lt_succ_of_lt hgx)).more (by simp; omega)), Lib.hid ((HTx.out.trans HT3.out).thenB (HB4.out.mono (by omega))), by omega⟩
            case measure => simp [intOf]; omega
          · obtain rfl : j = 0 := by omega
            have hxs1 : 1 ≤ xs.length := by omega
            obtain ⟨g6, c6, e6, hg61, hg62, _⟩ := HGx.out.some_ (by omega)
            subst e6
            have HO6 : Hid (OwnL wr (bx + 1) wr.heap.size (some ⟨g6, 0, none⟩) 1 encString xs) := Lib.hid (by
              obtain ⟨A9, c9, e9, o9⟩ := HGx.out.own encString_len
              injection e9 with e9 _ _
              rw [e9]; exact o9)
            obtain ⟨b8, hb8e⟩ : ∃ b8, Hid (wr.heap.size = b8) := ⟨_, Lib.hid rfl⟩
            have hb8x : bx < b8 := by have := hb8e.out; omega
            have hb8le : b8 ≤ wr.heap.size := Nat.le_of_eq hb8e.out.symm
            have HOw : Hid (Calls Tryz.prog 66 #[.slice (some ⟨g6, 0, none⟩) xs.length c6] wr fun e w' => ∃ v, e = .returned v ∧ Grow w' b8 9 1 encString v xs ∧ Below b8 wr w') := Lib.hid (by
              have := l1OwnSG_any xs (some ⟨g6, 0, none⟩) c6 wr (HO6.out.rd encString_len) (by omega) (by omega)
              rw [hb8e.out] at this; exact this)
            clear hlt hj8 hj1
            obtain ⟨wo, rfl⟩ : ∃ wo, wo = wr := ⟨wr, rfl⟩
            go_upto_region 20 with (first
              | (go_at_call 66; refine HOw.out.mono ?_; rintro e wA ⟨v7, rfl, hgA, hbA⟩; have HGA := Lib.hid hgA; have HBA := Lib.hid hbA; have hzA := hbA.size; have hsA : bx < wA.heap.size := (by omega); have D0 := Lib.hid ((hbA.cell (p := ⟨bx, 0, none⟩) hb8x).trans D0.out); have D1 := Lib.hid ((hbA.cell (p := ⟨bx, 1, none⟩) hb8x).trans D1.out); have D2 := Lib.hid ((hbA.cell (p := ⟨bx, 2, none⟩) hb8x).trans D2.out); have E2 := Lib.hid ((hbA.frozen (p := ⟨bx, 2, none⟩) hb8x).trans E2.out); have HOA := Lib.hid (HO6.out.later (show Below wo.heap.size wo wA by rw [hb8e.out]; exact hbA)); clear hgA hbA)
              | (go_at_call 87; refine (HCH.out wA (K + 20) ((HCx.out.keep HBA.out (by omega)).more (by omega)) (by omega)).mono ?_; rintro e wB ⟨v, rfl, s, rfl, hs, hcB, htB⟩; have Hs := Lib.hid hs; have HCB := Lib.hid hcB; have HTB := Lib.hid htB; have hzB := htB.size; have hsB : bx < wB.heap.size := (by omega); have D0 := Lib.hid ((htB.cell (p := ⟨bx, 0, none⟩) hsA (by simp; omega)).trans D0.out); have D1 := Lib.hid ((htB.cell (p := ⟨bx, 1, none⟩) hsA (by simp; omega)).trans D1.out); have D2 := Lib.hid ((htB.cell (p := ⟨bx, 2, none⟩) hsA (by simp; omega)).trans D2.out); have E2 := Lib.hid ((frozen_of_turn htB hsA (by omega) 2).trans E2.out); have HOB := Lib.hid (HOA.out.chg htB (.inr (by omega))); clear hs hcB htB)
              | (at_builtin; refine wpList_pushA rfl (.tmp 67) (.tmp 71) 25 rfl b8 9 _ 1 16 encString rfl String_info rfl (by omega) _ xs [s] 1 rfl rfl (by simp) (HGA.out.turn HTB.out (by omega)) rfl encString_len (Hone.out s) (by simp only [List.length_singleton]; omega) (by omega) (by omega) ?_; intro v4 wC g4 b4 gb4 k4; have HG4 := Lib.hid g4; have HBC := Lib.hid b4; have hzC := b4.size; have hsC : bx < wC.heap.size := (by omega); have D0 := Lib.hid ((b4.cell (p := ⟨bx, 0, none⟩) hb8x).trans D0.out); have D1 := Lib.hid ((b4.cell (p := ⟨bx, 1, none⟩) hb8x).trans D1.out); have d2 := (b4.cell (p := ⟨bx, 2, none⟩) hb8x).trans D2.out; have e2 := (b4.frozen (p := ⟨bx, 2, none⟩) hb8x).trans E2.out; have HOC := Lib.hid (HOB.out.chg (Chg.ofB b4) (.inl (by have := hb8e.out; omega))); obtain ⟨A4, c4, hv4, _⟩ := g4.own encString_len; subst hv4; clear g4 b4 gb4 k4))
            have HBs := Lib.hid ((Below.refl bx wC).setCell (p := ⟨bx, 2, none⟩) (Nat.le_refl _) (.slice A4 (xs.length + 1) c4))
            have hxe : (xs ++ [s]).length = xs.length + 1 := by simp
            obtain ⟨wD, hwD⟩ : ∃ wD, Hid (wC.setCell ⟨bx, 2, none⟩ (.slice A4 (xs.length + 1) c4) = wD) := ⟨_, Lib.hid rfl⟩
            have S0 : Hid (wD.cell? ⟨bx, 0, none⟩ = some (.string nm)) := Lib.hid (by rw [← hwD.out, World.cell?_setCell_other _ _ _ _ (fun e => by injection e with _ e; omega)]; exact D0.out)
            have S1 : Hid (wD.cell? ⟨bx, 1, none⟩ = some (.int .i64 n)) := Lib.hid (by rw [← hwD.out, World.cell?_setCell_other _ _ _ _ (fun e => by injection e with _ e; omega)]; exact D1.out)
            have S2 : Hid (wD.cell? ⟨bx, 2, none⟩ = some (.slice A4 (xs ++ [s]).length c4)) := Lib.hid (by rw [← hwD.out, hxe]; exact World.cell?_setCell_same _ _ _ d2)
            have S3 : Hid (wD.frozen? ⟨bx, 2, none⟩ = false) := Lib.hid (by rw [← hwD.out, World.frozen?_setCell]; exact e2)
            have kk : Chg bx (bx + 1) wC wD := by rw [← hwD.out]; exact (Chg.refl _ _ wC).setCell (p := ⟨bx, 2, none⟩) (Nat.le_refl _) (Nat.lt_succ_self _) _
            have HOD := Lib.hid (HOC.out.chg kk (.inr (Nat.le_refl _)))
            have HGD : Hid (Grow wD b8 9 1 encString (.slice A4 (xs ++ [s]).length c4) (xs ++ [s])) := Lib.hid (by rw [← hwD.out]; exact HG4.out.set (p := ⟨bx, 2, none⟩) hb8x _)
            have HCD : Hid (Cur wD g (K + 22)) := Lib.hid (by rw [← hwD.out]; exact (HCB.out.keep HBC.out (by omega)).keep HBs.out hgx)
            have HTD : Hid (Turn g W0 wD) := Lib.hid (by rw [← hwD.out]; exact (((((HTx.out.thenB (HBA.out.mono (by have := HTx.out.size; omega))).trans HTB.out).thenB (HBC.out.mono (by have := HTx.out.size; omega))).thenB (HBs.out.mono hbz))))
            have hsD : bx < wD.heap.size := by have := kk.size; omega
            have kk' : b8 ≤ wD.heap.size := by have := kk.size; omega
            have HPD : Hid (∀ q ∈ xs ++ [s], changeP n q) := Lib.hid (fun q hq => by
              rcases List.mem_append.1 hq with hq | hq
              · exact hxP.out q hq
              · rw [List.mem_singleton.1 hq]; exact Hs.out)
            rw [hwD.out]
            have hhP := hxP
            clear d2 e2 kk D0 D1 D2 E2
            go_loopw [8] (fun i wr => ∃ (z : Int) (A : Option Addr) (c : Nat) (x : List ByteArray), i = .int .i64 z ∧ -1 ≤ z ∧ z < xs.length ∧ (x.length : Int) + z = 2 * xs.length ∧ Hid (∀ s ∈ x, changeP n s) ∧ Hid (wr.cell? ⟨bx, 0, none⟩ = some (.string nm)) ∧ Hid (wr.cell? ⟨bx, 1, none⟩ = some (.int .i64 n)) ∧ Hid (wr.cell? ⟨bx, 2, none⟩ = some (.slice A x.length c)) ∧ Hid (wr.frozen? ⟨bx, 2, none⟩ = false) ∧ Hid (Grow wr b8 9 1 encString (.slice A x.length c) x) ∧ Hid (OwnL wr (bx + 1) b8 (some ⟨g6, 0, none⟩) 1 encString xs) ∧ Hid (Cur wr g (K + 22)) ∧ Hid (Turn g W0 wr) ∧ bx < wr.heap.size ∧ b8 ≤ wr.heap.size) (fun i _ => (intOf i + 1).toNat)
            case atStart => exact ⟨(xs.length : Int) - 1, A4, c4, xs ++ [s], by rfl, by omega, by omega, by simp; omega, HPD, S0, S1, S2, S3, HGD, Lib.hid (by rw [← hb8e.out]; exact HOD.out), HCD, HTD, hsD, kk'⟩
            case round =>
              obtain ⟨z, A, c, x, rfl, hz1, hz2, hxz, hxP, D0, D1, D2, E2, HGx, HOx, HCx, HTx, hsx, hb8w⟩ := hrel
              have d0 := D0.out
              have d1 := D1.out
              have d2 := D2.out
              have hx8 : x.length ≤ 9 := by omega
              by_cases hz0 : 0 ≤ z
              · obtain ⟨m, rfl⟩ : ∃ m : Nat, z = (m : Int) := ⟨z.toNat, by omega⟩
                have hm : m < xs.length := by omega
                have hq := (HOx.out.cellStr m hm).1
                have Hs : Hid (changeP n xs[m]) := Lib.hid (hhP.out _ (List.getElem_mem hm))
                obtain ⟨s, hs⟩ : ∃ s, Hid (xs[m] = s) := ⟨_, Lib.hid rfl⟩
                rw [hs.out] at hq Hs
                have hwz : IntKind.i64.wrap ((m : Int) - 1) = (m : Int) - 1 := IntWalk.i64_in _ (by omega)
                have hqa := (((Below.refl wr.heap.size wr).alloc (Nat.le_refl _) (.cells #[.string s] 9)).cell (p := ⟨bx, 2, none⟩) (show bx < wr.heap.size by omega)).trans d2
                go_upto_region 22 with fail
                go_region_law (show (if _ = true then Oper.wp _ _ _ ((wr.drew).alloc (.cells #[.string s] 9)) _ _ else _); refine step_pushA rfl (.tmp 82) (.tmp 87) 25 rfl b8 9 _ 1 16 encString rfl String_info rfl (by omega) (.slice A x.length c) x [s] 1 rfl rfl rfl (by exact HGx.out) rfl encString_len (Hone.out s) (by simp) (by simp only [List.length_singleton]; omega) (by omega) (by exact hb8w) ?_; intro v' w4 hg4 hb4 hgb4 hk4; have s0 := (hb4.cell (p := ⟨bx, 0, none⟩) hb8x).trans D0.out; have s1 := (hb4.cell (p := ⟨bx, 1, none⟩) hb8x).trans D1.out; have s2 := (hb4.cell (p := ⟨bx, 2, none⟩) hb8x).trans D2.out; have s3 := (hb4.frozen (p := ⟨bx, 2, none⟩) hb8x).trans E2.out; obtain ⟨A4, c4, hv4, _⟩ := hg4.own encString_len; subst hv4; have HG4 := Lib.hid hg4; have HB4 : Hid (Below b8 wr w4) := Lib.hid ⟨hb4.os, hb4.tape, hb4.output, hb4.size, hb4.block⟩; clear hg4 hb4 hgb4 hk4)
                all_goals
                  clear hqa hq
                  go_wp2
                  have hz4 := HB4.out.size
                  have HBs := Lib.hid ((Below.refl bx w4).setCell (p := ⟨bx, 2, none⟩) (Nat.le_refl _) (.slice A4 (x.length + 1) c4))
                  have hxe : (x ++ [s]).length = x.length + 1 := by simp
                  have HP4 : Hid (∀ q ∈ x ++ [s], changeP n q) := Lib.hid (fun q hq => by
                    rcases List.mem_append.1 hq with hq | hq
                    · exact hxP.out q hq
                    · rw [List.mem_singleton.1 hq]; exact Hs.out)
                  obtain ⟨wD, hwD⟩ : ∃ wD, Hid (w4.setCell ⟨bx, 2, none⟩ (.slice A4 (x.length + 1) c4) = wD) := ⟨_, Lib.hid rfl⟩
                  have S0 : Hid (wD.cell? ⟨bx, 0, none⟩ = some (.string nm)) := Lib.hid (by rw [← hwD.out, World.cell?_setCell_other _ _ _ _ (fun e => by injection e with _ e; omega)]; exact s0)
                  have S1 : Hid (wD.cell? ⟨bx, 1, none⟩ = some (.int .i64 n)) := Lib.hid (by rw [← hwD.out, World.cell?_setCell_other _ _ _ _ (fun e => by injection e with _ e; omega)]; exact s1)
                  have S2 : Hid (wD.cell? ⟨bx, 2, none⟩ = some (.slice A4 (x ++ [s]).length c4)) := Lib.hid (by rw [← hwD.out, hxe]; exact World.cell?_setCell_same _ _ _ s2)
                  have S3 : Hid (wD.frozen? ⟨bx, 2, none⟩ = false) := Lib.hid (by rw [← hwD.out, World.frozen?_setCell]; exact s3)
                  have kk : Chg bx (bx + 1) w4 wD := by rw [← hwD.out]; exact (Chg.refl _ _ w4).setCell (p := ⟨bx, 2, none⟩) (Nat.le_refl _) (Nat.lt_succ_self _) _
                  have HGD : Hid (Grow wD b8 9 1 encString (.slice A4 (x ++ [s]).length c4) (x ++ [s])) := Lib.hid (by rw [← hwD.out]; exact HG4.out.set (p := ⟨bx, 2, none⟩) hb8x _)
                  have HOD := Lib.hid ((HOx.out.chg (Chg.ofB HB4.out) (.inl (Nat.le_refl _))).chg kk (.inr (Nat.le_refl _)))
                  have HCD : Hid (Cur wD g (K + 22)) := Lib.hid (by rw [← hwD.out]; exact (HCx.out.keep HB4.out (by omega)).keep HBs.out hgx)
                  have HTD : Hid (Turn g W0 wD) := Lib.hid (by rw [← hwD.out]; exact (HTx.out.thenB (HB4.out.mono (by omega))).thenB (HBs.out.mono hbz))
                  have hsD := kk.size
                  rw [hwD.out]
                  go_roundw
                  case rel => exact ⟨(m : Int) - 1, A4, c4, x ++ [s], by rfl, by omega, by omega, (by rw [hxe]; omega), HP4, S0, S1, S2, S3, HGD, HOD, HCD, HTD, by omega, by omega⟩
                  case measure => (simp [intOf] <;> omega)
              · obtain rfl : z = -1 := by omega
                have hxl9 : x.length ≤ 9 := hx8
                have HGy := Lib.hid (HGx.out.lo (base' := bx + 1) (by omega))
                clear HGx
                have HGx := HGy
                have Ham : Hid (∀ W : World, Below wr.heap.size wr W → Calls Tryz.prog 87 #[.pointer (some ⟨g, 0, none⟩), .int .i64 n] W fun e w' => ∃ v, e = .returned v ∧ ∃ s : ByteArray, v = .string s ∧ changeP n s ∧ Cur w' g (K + 22 + 2) ∧ Turn g wr w') := Lib.hid (fun W hb => by
have hca := change_any g (K + 22) n.toNat W (HCx.out.later hb) (by omega) (by omega) (by omega)
rw [show ((n.toNat : Nat) : Int) = n by omega] at hca
exact hca.mono fun e w' ⟨s, he, hs, hc, ht⟩ => ⟨_, he, s, rfl, hs, hc, (Turn.of hb).trans ht⟩)
                have Hone : Hid (∀ x : ByteArray, ∀ u ∈ [Value.string x], u.oneCell' = true) := Lib.hid (by intro x u hu; simp at hu; subst hu; rfl)
                go_upto_region 23 with fail
                go_region_law (first
                  | (refine step_callsX (by rfl) 87 (by rfl) #[.pointer (some ⟨g, 0, none⟩), .int .i64 n] (by go_simp) (Ham.out _ (by repeat (first | exact Below.refl _ _ | refine Below.drew ?_ | refine Below.alloc ?_ (Nat.le_refl _) _))) ?_; rintro v w3 ⟨s, rfl, hs, hc3, ht3⟩; have Hs := Lib.hid hs; have HC3 := Lib.hid hc3; have HT3 := Lib.hid ht3; have hz3 := ht3.size; have q0 := (ht3.cell (p := ⟨bx, 0, none⟩) hsx (by simp; omega)).trans D0.out; have q1 := (ht3.cell (p := ⟨bx, 1, none⟩) hsx (by simp; omega)).trans D1.out; have q2 := (ht3.cell (p := ⟨bx, 2, none⟩) hsx (by simp; omega)).trans D2.out; have q3 : w3.frozen? ⟨bx, 2, none⟩ = false := (frozen_of_turn ht3 hsx (by omega) 2).trans E2.out; have q2a := (((Below.refl w3.heap.size w3).alloc (Nat.le_refl _) (.cells #[.string s] 9)).cell (p := ⟨bx, 2, none⟩) (show bx < w3.heap.size by omega)).trans q2; clear hs hc3 ht3)
                  | (refine step_pushA rfl (.tmp 91) (.tmp 95) 25 rfl (bx + 1) 9 _ 1 16 encString rfl String_info rfl (by omega) (.slice A x.length c) x [s] 1 rfl rfl rfl (HGx.out.turn HT3.out (by omega)) rfl encString_len (Hone.out s) (by simp) (by simp only [List.length_singleton]; omega) (by omega) (by omega) ?_; intro v' w4 hg4 hb4 hgb4 hk4; have s0 := (hb4.cell (p := ⟨bx, 0, none⟩) (Nat.lt_succ_self _)).trans q0; have s1 := (hb4.cell (p := ⟨bx, 1, none⟩) (Nat.lt_succ_self _)).trans q1; have s2 := (hb4.cell (p := ⟨bx, 2, none⟩) (Nat.lt_succ_self _)).trans q2; have s3 := (hb4.frozen (p := ⟨bx, 2, none⟩) (Nat.lt_succ_self _)).trans q3; obtain ⟨A4, c4, hv4, _⟩ := hg4.own encString_len; subst hv4; have HG4 := Lib.hid hg4; have HB4 := Lib.hid hb4; clear hg4 hb4 hgb4 hk4))
                all_goals
                  clear q2a
                  go_upto_region 24 with fail
                  have HBs := Lib.hid ((Below.refl bx w4).setCell (p := ⟨bx, 2, none⟩) (Nat.le_refl _) (.slice A4 (x.length + 1) c4))
                  have hxe : (x ++ [s]).length = x.length + 1 := by simp
                  have HP4 : Hid (∀ q ∈ x ++ [s], changeP n q) := Lib.hid (fun q hq => by
                    rcases List.mem_append.1 hq with hq | hq
                    · exact hxP.out q hq
                    · rw [List.mem_singleton.1 hq]; exact Hs.out)
                  have S0 : Hid ((w4.setCell ⟨bx, 2, none⟩ (.slice A4 (x.length + 1) c4)).cell? ⟨bx, 0, none⟩ = some (.string nm)) := Lib.hid (by rw [World.cell?_setCell_other _ _ _ _ (fun e => by injection e with _ e; omega)]; exact s0)
                  have S1 : Hid ((w4.setCell ⟨bx, 2, none⟩ (.slice A4 (x.length + 1) c4)).cell? ⟨bx, 1, none⟩ = some (.int .i64 n)) := Lib.hid (by rw [World.cell?_setCell_other _ _ _ _ (fun e => by injection e with _ e; omega)]; exact s1)
                  have S2 : Hid ((w4.setCell ⟨bx, 2, none⟩ (.slice A4 (x.length + 1) c4)).cell? ⟨bx, 2, none⟩ = some (.slice A4 (x ++ [s]).length c4)) := Lib.hid (by rw [hxe]; exact World.cell?_setCell_same _ _ _ s2)
                  have S3 : Hid ((w4.setCell ⟨bx, 2, none⟩ (.slice A4 (x.length + 1) c4)).frozen? ⟨bx, 2, none⟩ = false) := Lib.hid (by rw [World.frozen?_setCell]; exact s3)
                  have HG5 := Lib.hid (HG4.out.set (p := ⟨bx, 2, none⟩) (Nat.lt_succ_self _) (.slice A4 (x.length + 1) c4))
                  have HC5b := Lib.hid ((HC3.out.keep HB4.out (Nat.lt_succ_of_lt hgx)).keep HBs.out hgx)
                  have HT5b := Lib.hid (((HTx.out.trans HT3.out).thenB (HB4.out.mono (by omega))).thenB (HBs.out.mono hbz))
                  have hs5b : bx < (w4.setCell ⟨bx, 2, none⟩ (.slice A4 (x.length + 1) c4)).heap.size := by have := HB4.out.size; have := HBs.out.size; omega
                  obtain ⟨wF, hwF⟩ : ∃ wF, Hid (w4.setCell ⟨bx, 2, none⟩ (.slice A4 (x.length + 1) c4) = wF) := ⟨_, Lib.hid rfl⟩
                  rw [hwF.out] at S0 S1 S2 S3 HG5 HC5b HT5b hs5b ⊢
                  obtain ⟨x5, hx5⟩ : ∃ x5, Hid (x ++ [s] = x5) := ⟨_, Lib.hid rfl⟩
                  have hx5l : x5.length = x.length + 1 := by rw [← hx5.out]; simp
                  rw [hx5.out] at S2 HG5 HP4
                  have t0 := S0.out
                  have t1 := S1.out
                  have t2 := S2.out
                  have hx0 : 0 < x5.length := by omega
                  have hx12 : x5.length ≤ 12 := by omega
                  clear d0 d1 d2 s0 s1 s2 s3 q0 q1 q2 q3 hxe hx5l
                  have HO : Hid (OwnL wF (bx + 1) (wF).heap.size A4 1 encString x5) := Lib.hid (by
                    obtain ⟨A9, c9, e9, o9⟩ := HG5.out.own encString_len
                    injection e9 with e9 _ _
                    rw [e9]; exact o9)
                  have hcap := HG5.out.capN
                  have hcr := hR.out.chg HT5b.out (.inr (by omega))
                  have r0 := hcr.cell (i := 0) (by omega)
                  have r1 := hcr.cell (i := 1) (by omega)
                  have r2 := hcr.cell (i := 2) (by omega)
                  have rf0 := hcr.free (i := 0) (by omega)
                  have rf1 := hcr.free (i := 1) (by omega)
                  have rf2 := hcr.free (i := 2) (by omega)
                  have hsw : w.heap.size < (wF).heap.size := by omega
                  clear hcr
                  go_wp2
                  refine bodyPost_ret (v := .agg #[.string nm, .int .i64 n, .slice A4 x5.length c4]) (by simp [results, Tryz.results64, go_sem, r0, r1, r2, rf0, rf1, rf2]) rfl ?_
                  have kk : Chg w.heap.size (w.heap.size + 1) wF (setN wF w.heap.size 0 [Value.string nm, .int .i64 n, .slice A4 x5.length c4]) := Chg.setN (Nat.le_refl _) (Nat.lt_succ_self _) _ (Chg.refl _ _ wF)
                  have kb : Below w.heap.size wF (setN wF w.heap.size 0 [Value.string nm, .int .i64 n, .slice A4 x5.length c4]) := Below.chg (Below.refl _ _) kk (Nat.le_refl _) (by omega)
                  exact ⟨nm, n, x5, A4, c4, rfl, ⟨hn3, hn6, Hnm.out, hx0, by omega, HP4.out⟩, hcap, (HO.out.chg kk (.inr (by omega))).mono (by omega) kk.size, (HC5b.out.keep kb hgw).more (by omega), ((Turn.of hWb.out).trans HT5b.out).thenB kb⟩
    · rcases (show n = 4 ∨ n = 5 ∨ n = 6 by omega) with hN0 | hN0 | hN0
      · have hN := Lib.hid hN0
        rw [hN0] at D1 ⊢
        clear hN0
        have Hh : Hid (∀ (last : ByteArray) (W : World), changeP (4 : Int) last → Calls Tryz.prog 86 #[.int .i64 4, .string last] W fun e w' => ∃ (x : List ByteArray) (A : Option Addr) (c : Nat), e = .returned (.slice A x.length c) ∧ (x.length : Int) = 2 * 4 ∧ x.length ≤ c ∧ (∀ s ∈ x, changeP (4 : Int) s) ∧ OwnL w' W.heap.size w'.heap.size A 1 encString x ∧ Below W.heap.size W w') := Lib.hid (fun last W hl => l4Hunting_any 4 last W (changeP (4 : Int)) (by omega) (by omega) (fun _ => by first | exact ⟨chB_ok (by decide +kernel), chB_ok (by decide +kernel)⟩ | omega) (fun _ => by first | exact ⟨chB_ok (by decide +kernel), chB_ok (by decide +kernel)⟩ | omega) hl)
        go_upto_region 24 with (go_at_call 86; refine (Hh.out _ w6 (chB_ok (by decide +kernel))).mono ?_; rintro e wQ ⟨x, A, c, rfl, hxl, hcap, hxp, hoq, hbq⟩; have HXl := Lib.hid hxl; have HP := Lib.hid hxp; have HOq := Lib.hid hoq; have hlo : bx + 1 ≤ (w6).heap.size := (by omega); have D0 := Lib.hid ((hbq.cell (p := ⟨bx, 0, none⟩) (show bx < (w6).heap.size by omega)).trans D0.out); have D1 := Lib.hid ((hbq.cell (p := ⟨bx, 1, none⟩) (show bx < (w6).heap.size by omega)).trans D1.out); have d2 := (hbq.cell (p := ⟨bx, 2, none⟩) (show bx < (w6).heap.size by omega)).trans D2.out; have e2 := (hbq.frozen (p := ⟨bx, 2, none⟩) (show bx < (w6).heap.size by omega)).trans E2.out; have HCq := Lib.hid (HC6.out.later hbq); have HTq := Lib.hid (HT6.out.then hbq); have hzq := hbq.size; clear hxl hxp hoq hbq)
        obtain ⟨wF, hwF⟩ : ∃ wF, Hid (wQ.setCell ⟨bx, 2, none⟩ (.slice A x.length c) = wF) := ⟨_, Lib.hid rfl⟩
        have S0 : wF.cell? ⟨bx, 0, none⟩ = some (.string nm) := by rw [← hwF.out, World.cell?_setCell_other _ _ _ _ (fun e => by injection e with _ e; omega)]; exact D0.out
        have S1 : wF.cell? ⟨bx, 1, none⟩ = some (.int .i64 n) := by rw [← hwF.out, World.cell?_setCell_other _ _ _ _ (fun e => by injection e with _ e; omega), hN.out]; exact D1.out
        have S2 : wF.cell? ⟨bx, 2, none⟩ = some (.slice A x.length c) := by rw [← hwF.out]; exact World.cell?_setCell_same _ _ _ d2
        have kk0 : Chg bx (bx + 1) wQ wF := by rw [← hwF.out]; exact (Chg.refl _ _ wQ).setCell (p := ⟨bx, 2, none⟩) (Nat.le_refl _) (Nat.lt_succ_self _) _
        have HBs : Hid (Below bx wQ wF) := Lib.hid (by rw [← hwF.out]; exact (Below.refl bx wQ).setCell (p := ⟨bx, 2, none⟩) (Nat.le_refl _) _)
        have hzF := kk0.size
        have hx0 : 0 < x.length := by have := HXl.out; omega
        have hx12 : x.length ≤ 12 := by have := HXl.out; omega
        have HO : Hid (OwnL wF (bx + 1) wF.heap.size A 1 encString x) := Lib.hid ((HOq.out.chg kk0 (.inr hlo)).mono hlo hzF)
        have HCF := Lib.hid (HCq.out.keep HBs.out hgx)
        have HTF := Lib.hid (HTq.out.thenB (HBs.out.mono hbz))
        have hPx : Hid (∀ q ∈ x, changeP n q) := Lib.hid (by rw [hN.out]; exact HP.out)
        rw [hwF.out]
        rw [← hN.out]
        clear d2 e2 D0 D1 D2 E2
        have hcr := hR.out.chg HTF.out (.inr (by omega))
        have r0 := hcr.cell (i := 0) (by omega)
        have r1 := hcr.cell (i := 1) (by omega)
        have r2 := hcr.cell (i := 2) (by omega)
        have rf0 := hcr.free (i := 0) (by omega)
        have rf1 := hcr.free (i := 1) (by omega)
        have rf2 := hcr.free (i := 2) (by omega)
        have hsw : w.heap.size < (wF).heap.size := by omega
        clear hcr
        go_wp2
        refine bodyPost_ret (v := .agg #[.string nm, .int .i64 n, .slice A x.length c]) (by simp [results, Tryz.results64, go_sem, r0, r1, r2, rf0, rf1, rf2]) rfl ?_
        have kk : Chg w.heap.size (w.heap.size + 1) wF (setN wF w.heap.size 0 [Value.string nm, .int .i64 n, .slice A x.length c]) := Chg.setN (Nat.le_refl _) (Nat.lt_succ_self _) _ (Chg.refl _ _ wF)
        have kb : Below w.heap.size wF (setN wF w.heap.size 0 [Value.string nm, .int .i64 n, .slice A x.length c]) := Below.chg (Below.refl _ _) kk (Nat.le_refl _) (by omega)
        exact ⟨nm, n, x, A, c, rfl, ⟨hn3, hn6, Hnm.out, hx0, by omega, hPx.out⟩, hcap, (HO.out.chg kk (.inr (by omega))).mono (by omega) kk.size, (HCF.out.keep kb hgw).more (by omega), ((Turn.of hWb.out).trans HTF.out).thenB kb⟩
      · have hN := Lib.hid hN0
        rw [hN0] at D1 ⊢
        clear hN0
        have Hh : Hid (∀ (last : ByteArray) (W : World), changeP (5 : Int) last → Calls Tryz.prog 86 #[.int .i64 5, .string last] W fun e w' => ∃ (x : List ByteArray) (A : Option Addr) (c : Nat), e = .returned (.slice A x.length c) ∧ (x.length : Int) = 2 * 5 ∧ x.length ≤ c ∧ (∀ s ∈ x, changeP (5 : Int) s) ∧ OwnL w' W.heap.size w'.heap.size A 1 encString x ∧ Below W.heap.size W w') := Lib.hid (fun last W hl => l4Hunting_any 5 last W (changeP (5 : Int)) (by omega) (by omega) (fun _ => by first | exact ⟨chB_ok (by decide +kernel), chB_ok (by decide +kernel)⟩ | omega) (fun _ => by first | exact ⟨chB_ok (by decide +kernel), chB_ok (by decide +kernel)⟩ | omega) hl)
        go_upto_region 24 with (first
        | (go_at_call 85; refine (l1NumD_any 5 _ (by omega) (by omega)).mono ?_; rintro e wN ⟨rfl, hbN⟩; have HCN := Lib.hid (HC6.out.later hbN); have HTN := Lib.hid (HT6.out.then hbN); have hzN := hbN.size; have D0 := Lib.hid ((hbN.cell (p := ⟨bx, 0, none⟩) ht6s).trans D0.out); have D1 := Lib.hid ((hbN.cell (p := ⟨bx, 1, none⟩) ht6s).trans D1.out); have D2 := Lib.hid ((hbN.cell (p := ⟨bx, 2, none⟩) ht6s).trans D2.out); have E2 := Lib.hid ((hbN.frozen (p := ⟨bx, 2, none⟩) ht6s).trans E2.out); clear hbN)
        | (go_at_call 86; refine (Hh.out _ wN (chB_ok (by decide +kernel))).mono ?_; rintro e wQ ⟨x, A, c, rfl, hxl, hcap, hxp, hoq, hbq⟩; have HXl := Lib.hid hxl; have HP := Lib.hid hxp; have HOq := Lib.hid hoq; have hlo : bx + 1 ≤ (wN).heap.size := (by omega); have D0 := Lib.hid ((hbq.cell (p := ⟨bx, 0, none⟩) (show bx < (wN).heap.size by omega)).trans D0.out); have D1 := Lib.hid ((hbq.cell (p := ⟨bx, 1, none⟩) (show bx < (wN).heap.size by omega)).trans D1.out); have d2 := (hbq.cell (p := ⟨bx, 2, none⟩) (show bx < (wN).heap.size by omega)).trans D2.out; have e2 := (hbq.frozen (p := ⟨bx, 2, none⟩) (show bx < (wN).heap.size by omega)).trans E2.out; have HCq := Lib.hid (HCN.out.later hbq); have HTq := Lib.hid (HTN.out.then hbq); have hzq := hbq.size; clear hxl hxp hoq hbq))
        obtain ⟨wF, hwF⟩ : ∃ wF, Hid (wQ.setCell ⟨bx, 2, none⟩ (.slice A x.length c) = wF) := ⟨_, Lib.hid rfl⟩
        have S0 : wF.cell? ⟨bx, 0, none⟩ = some (.string nm) := by rw [← hwF.out, World.cell?_setCell_other _ _ _ _ (fun e => by injection e with _ e; omega)]; exact D0.out
        have S1 : wF.cell? ⟨bx, 1, none⟩ = some (.int .i64 n) := by rw [← hwF.out, World.cell?_setCell_other _ _ _ _ (fun e => by injection e with _ e; omega), hN.out]; exact D1.out
        have S2 : wF.cell? ⟨bx, 2, none⟩ = some (.slice A x.length c) := by rw [← hwF.out]; exact World.cell?_setCell_same _ _ _ d2
        have kk0 : Chg bx (bx + 1) wQ wF := by rw [← hwF.out]; exact (Chg.refl _ _ wQ).setCell (p := ⟨bx, 2, none⟩) (Nat.le_refl _) (Nat.lt_succ_self _) _
        have HBs : Hid (Below bx wQ wF) := Lib.hid (by rw [← hwF.out]; exact (Below.refl bx wQ).setCell (p := ⟨bx, 2, none⟩) (Nat.le_refl _) _)
        have hzF := kk0.size
        have hx0 : 0 < x.length := by have := HXl.out; omega
        have hx12 : x.length ≤ 12 := by have := HXl.out; omega
        have HO : Hid (OwnL wF (bx + 1) wF.heap.size A 1 encString x) := Lib.hid ((HOq.out.chg kk0 (.inr hlo)).mono hlo hzF)
        have HCF := Lib.hid (HCq.out.keep HBs.out hgx)
        have HTF := Lib.hid (HTq.out.thenB (HBs.out.mono hbz))
        have hPx : Hid (∀ q ∈ x, changeP n q) := Lib.hid (by rw [hN.out]; exact HP.out)
        rw [hwF.out]
        rw [← hN.out]
        clear d2 e2 D0 D1 D2 E2
        have hcr := hR.out.chg HTF.out (.inr (by omega))
        have r0 := hcr.cell (i := 0) (by omega)
        have r1 := hcr.cell (i := 1) (by omega)
        have r2 := hcr.cell (i := 2) (by omega)
        have rf0 := hcr.free (i := 0) (by omega)
        have rf1 := hcr.free (i := 1) (by omega)
        have rf2 := hcr.free (i := 2) (by omega)
        have hsw : w.heap.size < (wF).heap.size := by omega
        clear hcr
        go_wp2
        refine bodyPost_ret (v := .agg #[.string nm, .int .i64 n, .slice A x.length c]) (by simp [results, Tryz.results64, go_sem, r0, r1, r2, rf0, rf1, rf2]) rfl ?_
        have kk : Chg w.heap.size (w.heap.size + 1) wF (setN wF w.heap.size 0 [Value.string nm, .int .i64 n, .slice A x.length c]) := Chg.setN (Nat.le_refl _) (Nat.lt_succ_self _) _ (Chg.refl _ _ wF)
        have kb : Below w.heap.size wF (setN wF w.heap.size 0 [Value.string nm, .int .i64 n, .slice A x.length c]) := Below.chg (Below.refl _ _) kk (Nat.le_refl _) (by omega)
        exact ⟨nm, n, x, A, c, rfl, ⟨hn3, hn6, Hnm.out, hx0, by omega, hPx.out⟩, hcap, (HO.out.chg kk (.inr (by omega))).mono (by omega) kk.size, (HCF.out.keep kb hgw).more (by omega), ((Turn.of hWb.out).trans HTF.out).thenB kb⟩
      · have hN := Lib.hid hN0
        rw [hN0] at D1 ⊢
        clear hN0
        have Hh : Hid (∀ (last : ByteArray) (W : World), changeP (6 : Int) last → Calls Tryz.prog 86 #[.int .i64 6, .string last] W fun e w' => ∃ (x : List ByteArray) (A : Option Addr) (c : Nat), e = .returned (.slice A x.length c) ∧ (x.length : Int) = 2 * 6 ∧ x.length ≤ c ∧ (∀ s ∈ x, changeP (6 : Int) s) ∧ OwnL w' W.heap.size w'.heap.size A 1 encString x ∧ Below W.heap.size W w') := Lib.hid (fun last W hl => l4Hunting_any 6 last W (changeP (6 : Int)) (by omega) (by omega) (fun _ => by first | exact ⟨chB_ok (by decide +kernel), chB_ok (by decide +kernel)⟩ | omega) (fun _ => by first | exact ⟨chB_ok (by decide +kernel), chB_ok (by decide +kernel)⟩ | omega) hl)
        go_upto_region 24 with (go_at_call 86; refine (Hh.out _ w6 (chB_ok (by decide +kernel))).mono ?_; rintro e wQ ⟨x, A, c, rfl, hxl, hcap, hxp, hoq, hbq⟩; have HXl := Lib.hid hxl; have HP := Lib.hid hxp; have HOq := Lib.hid hoq; have hlo : bx + 1 ≤ (w6).heap.size := (by omega); have D0 := Lib.hid ((hbq.cell (p := ⟨bx, 0, none⟩) (show bx < (w6).heap.size by omega)).trans D0.out); have D1 := Lib.hid ((hbq.cell (p := ⟨bx, 1, none⟩) (show bx < (w6).heap.size by omega)).trans D1.out); have d2 := (hbq.cell (p := ⟨bx, 2, none⟩) (show bx < (w6).heap.size by omega)).trans D2.out; have e2 := (hbq.frozen (p := ⟨bx, 2, none⟩) (show bx < (w6).heap.size by omega)).trans E2.out; have HCq := Lib.hid (HC6.out.later hbq); have HTq := Lib.hid (HT6.out.then hbq); have hzq := hbq.size; clear hxl hxp hoq hbq)
        obtain ⟨wF, hwF⟩ : ∃ wF, Hid (wQ.setCell ⟨bx, 2, none⟩ (.slice A x.length c) = wF) := ⟨_, Lib.hid rfl⟩
        have S0 : wF.cell? ⟨bx, 0, none⟩ = some (.string nm) := by rw [← hwF.out, World.cell?_setCell_other _ _ _ _ (fun e => by injection e with _ e; omega)]; exact D0.out
        have S1 : wF.cell? ⟨bx, 1, none⟩ = some (.int .i64 n) := by rw [← hwF.out, World.cell?_setCell_other _ _ _ _ (fun e => by injection e with _ e; omega), hN.out]; exact D1.out
        have S2 : wF.cell? ⟨bx, 2, none⟩ = some (.slice A x.length c) := by rw [← hwF.out]; exact World.cell?_setCell_same _ _ _ d2
        have kk0 : Chg bx (bx + 1) wQ wF := by rw [← hwF.out]; exact (Chg.refl _ _ wQ).setCell (p := ⟨bx, 2, none⟩) (Nat.le_refl _) (Nat.lt_succ_self _) _
        have HBs : Hid (Below bx wQ wF) := Lib.hid (by rw [← hwF.out]; exact (Below.refl bx wQ).setCell (p := ⟨bx, 2, none⟩) (Nat.le_refl _) _)
        have hzF := kk0.size
        have hx0 : 0 < x.length := by have := HXl.out; omega
        have hx12 : x.length ≤ 12 := by have := HXl.out; omega
        have HO : Hid (OwnL wF (bx + 1) wF.heap.size A 1 encString x) := Lib.hid ((HOq.out.chg kk0 (.inr hlo)).mono hlo hzF)
        have HCF := Lib.hid (HCq.out.keep HBs.out hgx)
        have HTF := Lib.hid (HTq.out.thenB (HBs.out.mono hbz))
        have hPx : Hid (∀ q ∈ x, changeP n q) := Lib.hid (by rw [hN.out]; exact HP.out)
        rw [hwF.out]
        rw [← hN.out]
        clear d2 e2 D0 D1 D2 E2
        have hcr := hR.out.chg HTF.out (.inr (by omega))
        have r0 := hcr.cell (i := 0) (by omega)
        have r1 := hcr.cell (i := 1) (by omega)
        have r2 := hcr.cell (i := 2) (by omega)
        have rf0 := hcr.free (i := 0) (by omega)
        have rf1 := hcr.free (i := 1) (by omega)
        have rf2 := hcr.free (i := 2) (by omega)
        have hsw : w.heap.size < (wF).heap.size := by omega
        clear hcr
        go_wp2
        refine bodyPost_ret (v := .agg #[.string nm, .int .i64 n, .slice A x.length c]) (by simp [results, Tryz.results64, go_sem, r0, r1, r2, rf0, rf1, rf2]) rfl ?_
        have kk : Chg w.heap.size (w.heap.size + 1) wF (setN wF w.heap.size 0 [Value.string nm, .int .i64 n, .slice A x.length c]) := Chg.setN (Nat.le_refl _) (Nat.lt_succ_self _) _ (Chg.refl _ _ wF)
        have kb : Below w.heap.size wF (setN wF w.heap.size 0 [Value.string nm, .int .i64 n, .slice A x.length c]) := Below.chg (Below.refl _ _) kk (Nat.le_refl _) (by omega)
        exact ⟨nm, n, x, A, c, rfl, ⟨hn3, hn6, Hnm.out, hx0, by omega, hPx.out⟩, hcap, (HO.out.chg kk (.inr (by omega))).mono (by omega) kk.size, (HCF.out.keep kb hgw).more (by omega), ((Turn.of hWb.out).trans HTF.out).thenB kb⟩
  · have d4 : decide (4 ≤ n) = false := decide_eq_false hn4
    have HCw : Hid (Cur W5 g (K + 6)) := Lib.hid (HC5.out.more (by omega))
    have HTw := HT5
    have hbw := hs5
    have D0 := C0
    have D1 := C1
    have D2 := C2
    have E2 := F2
    obtain ⟨wS, hwS⟩ : ∃ wS, wS = W5 := ⟨W5, rfl⟩
    subst hwS
    go_upto_region 13 with (go_at_call 17; refine (one_any g (K + 6) 2 wS HCw.out (by omega) (by omega)).mono ?_; rintro e w7 ⟨b7, rfl, hc7, ht7⟩; have HC7 := Lib.hid hc7; have HT7 := Lib.hid (HTw.out.trans ht7); have hz7 := ht7.size; have hb7 : bx < w7.heap.size := (by omega); have D0 := Lib.hid ((ht7.cell (p := ⟨bx, 0, none⟩) hbw (by simp; omega)).trans D0.out); have D1 := Lib.hid ((ht7.cell (p := ⟨bx, 1, none⟩) hbw (by simp; omega)).trans D1.out); have D2 := Lib.hid ((ht7.cell (p := ⟨bx, 2, none⟩) hbw (by simp; omega)).trans D2.out); have E2 := Lib.hid ((frozen_of_turn ht7 hbw (by omega) 2).trans E2.out); clear hc7 ht7; cases b7)
    · go_upto_region 4 with (go_at_call 48; refine (pick_any g (K + 8) 8 _ HC7.out (by omega) (by omega)).mono ?_; rintro e w8 ⟨x, rfl, hx0, hx1, hc8, ht8⟩; have HC8 := Lib.hid hc8; have HT8 := Lib.hid (HT7.out.trans ht8); have hz8 := ht8.size; have hb8 : bx < w8.heap.size := (by omega); have D0 := Lib.hid ((ht8.cell (p := ⟨bx, 0, none⟩) hb7 (by simp; omega)).trans D0.out); have D1 := Lib.hid ((ht8.cell (p := ⟨bx, 1, none⟩) hb7 (by simp; omega)).trans D1.out); have D2 := Lib.hid ((ht8.cell (p := ⟨bx, 2, none⟩) hb7 (by simp; omega)).trans D2.out); have E2 := Lib.hid ((frozen_of_turn ht8 hb7 (by omega) 2).trans E2.out); clear hc8 ht8; obtain ⟨q, rfl⟩ : ∃ q : Nat, x = (q : Int) := ⟨x.toNat, by omega⟩; have hq8 : q < 8 := (by omega))
      go_loopw [9] (fun i wr => ∃ (j : Nat) (A : Option Addr) (c : Nat) (x : List ByteArray), i = .int .i64 (j : Int) ∧ x.length + j ≤ 8 ∧ 1 ≤ x.length + j ∧ Hid (∀ s ∈ x, changeP n s) ∧ Hid (wr.cell? ⟨bx, 0, none⟩ = some (.string nm)) ∧ Hid (wr.cell? ⟨bx, 1, none⟩ = some (.int .i64 n)) ∧ Hid (wr.cell? ⟨bx, 2, none⟩ = some (.slice A x.length c)) ∧ Hid (wr.frozen? ⟨bx, 2, none⟩ = false) ∧ Hid (Grow wr (bx + 1) 9 1 encString (.slice A x.length c) x) ∧ Hid (Cur wr g (K + 10 + 2 * x.length)) ∧ Hid (Turn g W0 wr) ∧ bx < wr.heap.size) (fun i _ => (intOf i).toNat)
      case atStart => exact ⟨q + 1, none, 0, [], by go_num, by simp; omega, by simp, Lib.hid (by simp), D0, D1, D2, E2, Lib.hid Grow.nil, HC8, HT8, hb8⟩
      case round =>
        obtain ⟨j, A, c, x, rfl, hj8, hj1, hxP, D0, D1, D2, E2, HGx, HCx, HTx, hsx⟩ := hrel
        have d0 := D0.out
        have d1 := D1.out
        have d2 := D2.out
        have hx8 : x.length ≤ 8 := by omega
        by_cases hlt : 0 < j
        · have Ham : Hid (∀ W : World, Below wr.heap.size wr W → Calls Tryz.prog 87 #[.pointer (some ⟨g, 0, none⟩), .int .i64 n] W fun e w' => ∃ v, e = .returned v ∧ ∃ s : ByteArray, v = .string s ∧ changeP n s ∧ Cur w' g (K + 10 + 2 * x.length + 2) ∧ Turn g wr w') := Lib.hid (fun W hb => by
have hca := change_any g (K + 10 + 2 * x.length) n.toNat W (HCx.out.later hb) (by omega) (by omega) (by omega)
rw [show ((n.toNat : Nat) : Int) = n by omega] at hca
exact hca.mono fun e w' ⟨s, he, hs, hc, ht⟩ => ⟨_, he, s, rfl, hs, hc, (Turn.of hb).trans ht⟩)
          have Hone : Hid (∀ x : ByteArray, ∀ u ∈ [Value.string x], u.oneCell' = true) := Lib.hid (by intro x u hu; simp at hu; subst hu; rfl)
          go_upto_region 6 with fail
          go_region_law (first
            | (refine step_callsX (by rfl) 87 (by rfl) #[.pointer (some ⟨g, 0, none⟩), .int .i64 n] (by go_simp) (Ham.out _ (by repeat (first | exact Below.refl _ _ | refine Below.drew ?_ | refine Below.alloc ?_ (Nat.le_refl _) _))) ?_; rintro v w3 ⟨s, rfl, hs, hc3, ht3⟩; have Hs := Lib.hid hs; have HC3 := Lib.hid hc3; have HT3 := Lib.hid ht3; have hz3 := ht3.size; have q0 := (ht3.cell (p := ⟨bx, 0, none⟩) hsx (by simp; omega)).trans D0.out; have q1 := (ht3.cell (p := ⟨bx, 1, none⟩) hsx (by simp; omega)).trans D1.out; have q2 := (ht3.cell (p := ⟨bx, 2, none⟩) hsx (by simp; omega)).trans D2.out; have q3 : w3.frozen? ⟨bx, 2, none⟩ = false := (frozen_of_turn ht3 hsx (by omega) 2).trans E2.out; have q2a := (((Below.refl w3.heap.size w3).alloc (Nat.le_refl _) (.cells #[.string s] 9)).cell (p := ⟨bx, 2, none⟩) (show bx < w3.heap.size by omega)).trans q2; clear hs hc3 ht3)
            | (refine step_pushA rfl (.tmp 26) (.tmp 30) 25 rfl (bx + 1) 9 _ 1 16 encString rfl String_info rfl (by omega) (.slice A x.length c) x [s] 1 rfl rfl rfl (HGx.out.turn HT3.out (by omega)) rfl encString_len (Hone.out s) (by simp) (by simp only [List.length_singleton]; omega) (by omega) (by omega) ?_; intro v' w4 hg4 hb4 hgb4 hk4; have s0 := (hb4.cell (p := ⟨bx, 0, none⟩) (Nat.lt_succ_self _)).trans q0; have s1 := (hb4.cell (p := ⟨bx, 1, none⟩) (Nat.lt_succ_self _)).trans q1; have s2 := (hb4.cell (p := ⟨bx, 2, none⟩) (Nat.lt_succ_self _)).trans q2; have s3 := (hb4.frozen (p := ⟨bx, 2, none⟩) (Nat.lt_succ_self _)).trans q3; obtain ⟨A4, c4, hv4, _⟩ := hg4.own encString_len; subst hv4; have HG4 := Lib.hid hg4; have HB4 := Lib.hid hb4; clear hg4 hb4 hgb4 hk4))
          all_goals
            clear q2a
            go_wp2
            have HBs := Lib.hid ((Below.refl bx w4).setCell (p := ⟨bx, 2, none⟩) (Nat.le_refl _) (.slice A4 (x.length + 1) c4))
            have hxe : (x ++ [s]).length = x.length + 1 := by simp
            have HP4 : Hid (∀ q ∈ x ++ [s], changeP n q) := Lib.hid (fun q hq => by
              rcases List.mem_append.1 hq with hq | hq
              · exact hxP.out q hq
              · rw [List.mem_singleton.1 hq]; exact Hs.out)
            have S0 : Hid ((w4.setCell ⟨bx, 2, none⟩ (.slice A4 (x.length + 1) c4)).cell? ⟨bx, 0, none⟩ = some (.string nm)) := Lib.hid (by rw [World.cell?_setCell_other _ _ _ _ (fun e => by injection e with _ e; omega)]; exact s0)
            have S1 : Hid ((w4.setCell ⟨bx, 2, none⟩ (.slice A4 (x.length + 1) c4)).cell? ⟨bx, 1, none⟩ = some (.int .i64 n)) := Lib.hid (by rw [World.cell?_setCell_other _ _ _ _ (fun e => by injection e with _ e; omega)]; exact s1)
            have S2 : Hid ((w4.setCell ⟨bx, 2, none⟩ (.slice A4 (x.length + 1) c4)).cell? ⟨bx, 2, none⟩ = some (.slice A4 (x ++ [s]).length c4)) := Lib.hid (by rw [hxe]; exact World.cell?_setCell_same _ _ _ s2)
            have S3 : Hid ((w4.setCell ⟨bx, 2, none⟩ (.slice A4 (x.length + 1) c4)).frozen? ⟨bx, 2, none⟩ = false) := Lib.hid (by rw [World.frozen?_setCell]; exact s3)
            have HG5 := Lib.hid (HG4.out.set (p := ⟨bx, 2, none⟩) (Nat.lt_succ_self _) (.slice A4 (x.length + 1) c4))
            have HC5b := Lib.hid ((HC3.out.keep HB4.out (Nat.lt_succ_of_lt hgx)).keep HBs.out hgx)
            have HT5b := Lib.hid (((HTx.out.trans HT3.out).thenB (HB4.out.mono (by omega))).thenB (HBs.out.mono hbz))
            have hs5b : bx < (w4.setCell ⟨bx, 2, none⟩ (.slice A4 (x.length + 1) c4)).heap.size := by have := HB4.out.size; have := HBs.out.size; omega
            go_roundw
            case rel => exact ⟨j - 1, A4, c4, x ++ [s], by go_num, by simp; omega, by simp; omega, HP4, S0, S1, S2, S3, HG5, Lib.hid (HC5b.out.more (by simp; omega)), HT5b, hs5b⟩
            case measure => simp [intOf]; omega
        · obtain rfl : j = 0 := by omega
          have hx0 : 0 < x.length := by omega
          have HO : Hid (OwnL wr (bx + 1) (wr).heap.size A 1 encString x) := Lib.hid (by
            obtain ⟨A9, c9, e9, o9⟩ := HGx.out.own encString_len
            injection e9 with e9 _ _
            rw [e9]; exact o9)
          have hcap := HGx.out.capN
          have hcr := hR.out.chg HTx.out (.inr (by omega))
          have r0 := hcr.cell (i := 0) (by omega)
          have r1 := hcr.cell (i := 1) (by omega)
          have r2 := hcr.cell (i := 2) (by omega)
          have rf0 := hcr.free (i := 0) (by omega)
          have rf1 := hcr.free (i := 1) (by omega)
          have rf2 := hcr.free (i := 2) (by omega)
          have hsw : w.heap.size < (wr).heap.size := by omega
          clear hcr
          go_wp2
          refine bodyPost_ret (v := .agg #[.string nm, .int .i64 n, .slice A x.length c]) (by simp [results, Tryz.results64, go_sem, r0, r1, r2, rf0, rf1, rf2]) rfl ?_
          have kk : Chg w.heap.size (w.heap.size + 1) wr (setN wr w.heap.size 0 [Value.string nm, .int .i64 n, .slice A x.length c]) := Chg.setN (Nat.le_refl _) (Nat.lt_succ_self _) _ (Chg.refl _ _ wr)
          have kb : Below w.heap.size wr (setN wr w.heap.size 0 [Value.string nm, .int .i64 n, .slice A x.length c]) := Below.chg (Below.refl _ _) kk (Nat.le_refl _) (by omega)
          exact ⟨nm, n, x, A, c, rfl, ⟨hn3, hn6, Hnm.out, hx0, by omega, hxP.out⟩, hcap, (HO.out.chg kk (.inr (by omega))).mono (by omega) kk.size, (HCx.out.keep kb hgw).more (by omega), ((Turn.of hWb.out).trans HTx.out).thenB kb⟩
    · go_upto_region 15 with (go_at_call 48; refine (pick_any g (K + 8) 4 _ HC7.out (by omega) (by omega)).mono ?_; rintro e w8 ⟨x, rfl, hx0, hx1, hc8, ht8⟩; have HC8 := Lib.hid hc8; have HT8 := Lib.hid (HT7.out.trans ht8); have hz8 := ht8.size; have hb8 : bx < w8.heap.size := (by omega); have D0 := Lib.hid ((ht8.cell (p := ⟨bx, 0, none⟩) hb7 (by simp; omega)).trans D0.out); have D1 := Lib.hid ((ht8.cell (p := ⟨bx, 1, none⟩) hb7 (by simp; omega)).trans D1.out); have D2 := Lib.hid ((ht8.cell (p := ⟨bx, 2, none⟩) hb7 (by simp; omega)).trans D2.out); have E2 := Lib.hid ((frozen_of_turn ht8 hb7 (by omega) 2).trans E2.out); clear hc8 ht8; obtain ⟨q, rfl⟩ : ∃ q : Nat, x = (q : Int) := ⟨x.toNat, by omega⟩; have hq8 : q < 4 := (by omega))
      go_loopw [6, 7] (fun v i wr => ∃ (j : Nat) (xs : List ByteArray), i = .int .i64 (j : Int) ∧ xs.length + j ≤ 4 ∧ 1 ≤ xs.length + j ∧ Hid (∀ s ∈ xs, changeP n s) ∧ Hid (wr.cell? ⟨bx, 0, none⟩ = some (.string nm)) ∧ Hid (wr.cell? ⟨bx, 1, none⟩ = some (.int .i64 n)) ∧ Hid (wr.cell? ⟨bx, 2, none⟩ = some (.slice none 0 0)) ∧ Hid (wr.frozen? ⟨bx, 2, none⟩ = false) ∧ Hid (Grow wr (bx + 1) 9 1 encString v xs) ∧ Hid (Cur wr g (K + 10 + 2 * xs.length)) ∧ Hid (Turn g W0 wr) ∧ bx < wr.heap.size) (fun _ i _ => (intOf i).toNat)
      case atStart => exact ⟨q + 1, [], by go_num, by simp; omega, by simp, Lib.hid (by simp), D0, D1, D2, E2, Lib.hid Grow.nil, HC8, HT8, hb8⟩
      case round =>
        obtain ⟨j, xs, rfl, hj8, hj1, hxP, D0, D1, D2, E2, HGx, HCx, HTx, hsx⟩ := hrel
        have hx8 : xs.length ≤ 4 := by omega
        have Hone : Hid (∀ x : ByteArray, ∀ u ∈ [Value.string x], u.oneCell' = true) := Lib.hid (by intro x u hu; simp at hu; subst hu; rfl)
        have Ham : Hid (∀ W : World, Below wr.heap.size wr W → Calls Tryz.prog 87 #[.pointer (some ⟨g, 0, none⟩), .int .i64 n] W fun e w' => ∃ v, e = .returned v ∧ ∃ s : ByteArray, v = .string s ∧ changeP n s ∧ Cur w' g (K + 10 + 2 * xs.length + 2) ∧ Turn g wr w') := Lib.hid (fun W hb => by
        have hca := change_any g (K + 10 + 2 * xs.length) n.toNat W (HCx.out.later hb) (by omega) (by omega) (by omega)
        rw [show ((n.toNat : Nat) : Int) = n by omega] at hca
        exact hca.mono fun e w' ⟨s, he, hs, hc, ht⟩ => ⟨_, he, s, rfl, hs, hc, (Turn.of hb).trans ht⟩)
        by_cases hlt : 0 < j
        · go_wp2_with (first
            | (go_at_call 87; refine (Ham.out _ (Below.refl _ _)).mono ?_; rintro e w3 ⟨v, rfl, s, rfl, hs, hc3, ht3⟩; have Hs := Lib.hid hs; have HC3 := Lib.hid hc3; have HT3 := Lib.hid ht3; have hz3 := ht3.size; have hb3 : bx < w3.heap.size := (by omega); have D0 := Lib.hid ((ht3.cell (p := ⟨bx, 0, none⟩) hsx (by simp; omega)).trans D0.out); have D1 := Lib.hid ((ht3.cell (p := ⟨bx, 1, none⟩) hsx (by simp; omega)).trans D1.out); have D2 := Lib.hid ((ht3.cell (p := ⟨bx, 2, none⟩) hsx (by simp; omega)).trans D2.out); have E2 := Lib.hid ((frozen_of_turn ht3 hsx (by omega) 2).trans E2.out); clear hs hc3 ht3)
            | (at_builtin; refine wpList_pushA rfl (.tmp 60) (.tmp 64) 25 rfl (bx + 1) 9 _ 1 16 encString rfl String_info rfl (by omega) _ xs [s] 1 rfl rfl (by simp) (HGx.out.turn HT3.out (by omega)) rfl encString_len (Hone.out s) (by simp only [List.length_singleton]; omega) (by omega) (by omega) ?_; intro v4 w4 g4 b4 gb4 k4; have HG4 := Lib.hid g4; have HB4 := Lib.hid b4; have hz4 := b4.size; have D0 := Lib.hid ((b4.cell (p := ⟨bx, 0, none⟩) (Nat.lt_succ_self _)).trans D0.out); have D1 := Lib.hid ((b4.cell (p := ⟨bx, 1, none⟩) (Nat.lt_succ_self _)).trans D1.out); have D2 := Lib.hid ((b4.cell (p := ⟨bx, 2, none⟩) (Nat.lt_succ_self _)).trans D2.out); have E2 := Lib.hid ((b4.frozen (p := ⟨bx, 2, none⟩) (Nat.lt_succ_self _)).trans E2.out); clear g4 b4 gb4 k4))
          go_roundw
          case rel => exact ⟨j - 1, xs ++ [s], by go_num, by simp; omega, by simp; omega, Lib.hid (fun q hq => by
            rcases List.mem_append.1 hq with hq | hq
            · exact hxP.out q hq
            · rw [List.mem_singleton.1 hq]; exact Hs.out), D0, D1, D2, E2, HG4, Lib.hid ((HC3.out.keep HB4.out (Nat.lt_succ_of_lt hgx)).more (by simp; omega)), Lib.hid ((HTx.out.trans HT3.out).thenB (HB4.out.mono (by omega))), by omega⟩
          case measure => simp [intOf]; omega
        · obtain rfl : j = 0 := by omega
          have hxs1 : 1 ≤ xs.length := by omega
          obtain ⟨g6, c6, e6, hg61, hg62, _⟩ := HGx.out.some_ (by omega)
          subst e6
          have HO6 : Hid (OwnL wr (bx + 1) wr.heap.size (some ⟨g6, 0, none⟩) 1 encString xs) := Lib.hid (by
            obtain ⟨A9, c9, e9, o9⟩ := HGx.out.own encString_len
            injection e9 with e9 _ _
            rw [e9]; exact o9)
          obtain ⟨b8, hb8e⟩ : ∃ b8, Hid (wr.heap.size = b8) := ⟨_, Lib.hid rfl⟩
          have hb8x : bx < b8 := by have := hb8e.out; omega
          have hb8le : b8 ≤ wr.heap.size := Nat.le_of_eq hb8e.out.symm
          have HOw : Hid (Calls Tryz.prog 66 #[.slice (some ⟨g6, 0, none⟩) xs.length c6] wr fun e w' => ∃ v, e = .returned v ∧ Grow w' b8 9 1 encString v xs ∧ Below b8 wr w') := Lib.hid (by
            have := l1OwnSG_any xs (some ⟨g6, 0, none⟩) c6 wr (HO6.out.rd encString_len) (by omega) (by omega)
            rw [hb8e.out] at this; exact this)
          clear hlt hj8 hj1
          obtain ⟨wo, rfl⟩ : ∃ wo, wo = wr := ⟨wr, rfl⟩
          go_upto_region 20 with (first
            | (go_at_call 66; refine HOw.out.mono ?_; rintro e wA ⟨v7, rfl, hgA, hbA⟩; have HGA := Lib.hid hgA; have HBA := Lib.hid hbA; have hzA := hbA.size; have hsA : bx < wA.heap.size := (by omega); have D0 := Lib.hid ((hbA.cell (p := ⟨bx, 0, none⟩) hb8x).trans D0.out); have D1 := Lib.hid ((hbA.cell (p := ⟨bx, 1, none⟩) hb8x).trans D1.out); have D2 := Lib.hid ((hbA.cell (p := ⟨bx, 2, none⟩) hb8x).trans D2.out); have E2 := Lib.hid ((hbA.frozen (p := ⟨bx, 2, none⟩) hb8x).trans E2.out); have HOA := Lib.hid (HO6.out.later (show Below wo.heap.size wo wA by rw [hb8e.out]; exact hbA)); clear hgA hbA)
            | (go_at_call 87; refine (HCH.out wA (K + 20) ((HCx.out.keep HBA.out (by omega)).more (by omega)) (by omega)).mono ?_; rintro e wB ⟨v, rfl, s, rfl, hs, hcB, htB⟩; have Hs := Lib.hid hs; have HCB := Lib.hid hcB; have HTB := Lib.hid htB; have hzB := htB.size; have hsB : bx < wB.heap.size := (by omega); have D0 := Lib.hid ((htB.cell (p := ⟨bx, 0, none⟩) hsA (by simp; omega)).trans D0.out); have D1 := Lib.hid ((htB.cell (p := ⟨bx, 1, none⟩) hsA (by simp; omega)).trans D1.out); have D2 := Lib.hid ((htB.cell (p := ⟨bx, 2, none⟩) hsA (by simp; omega)).trans D2.out); have E2 := Lib.hid ((frozen_of_turn htB hsA (by omega) 2).trans E2.out); have HOB := Lib.hid (HOA.out.chg htB (.inr (by omega))); clear hs hcB htB)
            | (at_builtin; refine wpList_pushA rfl (.tmp 67) (.tmp 71) 25 rfl b8 9 _ 1 16 encString rfl String_info rfl (by omega) _ xs [s] 1 rfl rfl (by simp) (HGA.out.turn HTB.out (by omega)) rfl encString_len (Hone.out s) (by simp only [List.length_singleton]; omega) (by omega) (by omega) ?_; intro v4 wC g4 b4 gb4 k4; have HG4 := Lib.hid g4; have HBC := Lib.hid b4; have hzC := b4.size; have hsC : bx < wC.heap.size := (by omega); have D0 := Lib.hid ((b4.cell (p := ⟨bx, 0, none⟩) hb8x).trans D0.out); have D1 := Lib.hid ((b4.cell (p := ⟨bx, 1, none⟩) hb8x).trans D1.out); have d2 := (b4.cell (p := ⟨bx, 2, none⟩) hb8x).trans D2.out; have e2 := (b4.frozen (p := ⟨bx, 2, none⟩) hb8x).trans E2.out; have HOC := Lib.hid (HOB.out.chg (Chg.ofB b4) (.inl (by have := hb8e.out; omega))); obtain ⟨A4, c4, hv4, _⟩ := g4.own encString_len; subst hv4; clear g4 b4 gb4 k4))
          have HBs := Lib.hid ((Below.refl bx wC).setCell (p := ⟨bx, 2, none⟩) (Nat.le_refl _) (.slice A4 (xs.length + 1) c4))
          have hxe : (xs ++ [s]).length = xs.length + 1 := by simp
          obtain ⟨wD, hwD⟩ : ∃ wD, Hid (wC.setCell ⟨bx, 2, none⟩ (.slice A4 (xs.length + 1) c4) = wD) := ⟨_, Lib.hid rfl⟩
          have S0 : Hid (wD.cell? ⟨bx, 0, none⟩ = some (.string nm)) := Lib.hid (by rw [← hwD.out, World.cell?_setCell_other _ _ _ _ (fun e => by injection e with _ e; omega)]; exact D0.out)
          have S1 : Hid (wD.cell? ⟨bx, 1, none⟩ = some (.int .i64 n)) := Lib.hid (by rw [← hwD.out, World.cell?_setCell_other _ _ _ _ (fun e => by injection e with _ e; omega)]; exact D1.out)
          have S2 : Hid (wD.cell? ⟨bx, 2, none⟩ = some (.slice A4 (xs ++ [s]).length c4)) := Lib.hid (by rw [← hwD.out, hxe]; exact World.cell?_setCell_same _ _ _ d2)
          have S3 : Hid (wD.frozen? ⟨bx, 2, none⟩ = false) := Lib.hid (by rw [← hwD.out, World.frozen?_setCell]; exact e2)
          have kk : Chg bx (bx + 1) wC wD := by rw [← hwD.out]; exact (Chg.refl _ _ wC).setCell (p := ⟨bx, 2, none⟩) (Nat.le_refl _) (Nat.lt_succ_self _) _
          have HOD := Lib.hid (HOC.out.chg kk (.inr (Nat.le_refl _)))
          have HGD : Hid (Grow wD b8 9 1 encString (.slice A4 (xs ++ [s]).length c4) (xs ++ [s])) := Lib.hid (by rw [← hwD.out]; exact HG4.out.set (p := ⟨bx, 2, none⟩) hb8x _)
          have HCD : Hid (Cur wD g (K + 22)) := Lib.hid (by rw [← hwD.out]; exact (HCB.out.keep HBC.out (by omega)).keep HBs.out hgx)
          have HTD : Hid (Turn g W0 wD) := Lib.hid (by rw [← hwD.out]; exact (((((HTx.out.thenB (HBA.out.mono (by have := HTx.out.size; omega))).trans HTB.out).thenB (HBC.out.mono (by have := HTx.out.size; omega))).thenB (HBs.out.mono hbz))))
          have hsD : bx < wD.heap.size := by have := kk.size; omega
          have kk' : b8 ≤ wD.heap.size := by have := kk.size; omega
          have HPD : Hid (∀ q ∈ xs ++ [s], changeP n q) := Lib.hid (fun q hq => by
            rcases List.mem_append.1 hq with hq | hq
            · exact hxP.out q hq
            · rw [List.mem_singleton.1 hq]; exact Hs.out)
          rw [hwD.out]
          have hhP := hxP
          clear d2 e2 kk D0 D1 D2 E2
          go_loopw [8] (fun i wr => ∃ (z : Int) (A : Option Addr) (c : Nat) (x : List ByteArray), i = .int .i64 z ∧ -1 ≤ z ∧ z < xs.length ∧ (x.length : Int) + z = 2 * xs.length ∧ Hid (∀ s ∈ x, changeP n s) ∧ Hid (wr.cell? ⟨bx, 0, none⟩ = some (.string nm)) ∧ Hid (wr.cell? ⟨bx, 1, none⟩ = some (.int .i64 n)) ∧ Hid (wr.cell? ⟨bx, 2, none⟩ = some (.slice A x.length c)) ∧ Hid (wr.frozen? ⟨bx, 2, none⟩ = false) ∧ Hid (Grow wr b8 9 1 encString (.slice A x.length c) x) ∧ Hid (OwnL wr (bx + 1) b8 (some ⟨g6, 0, none⟩) 1 encString xs) ∧ Hid (Cur wr g (K + 22)) ∧ Hid (Turn g W0 wr) ∧ bx < wr.heap.size ∧ b8 ≤ wr.heap.size) (fun i _ => (intOf i + 1).toNat)
          case atStart => exact ⟨(xs.length : Int) - 1, A4, c4, xs ++ [s], by rfl, by omega, by omega, by simp; omega, HPD, S0, S1, S2, S3, HGD, Lib.hid (by rw [← hb8e.out]; exact HOD.out), HCD, HTD, hsD, kk'⟩
          case round =>
            obtain ⟨z, A, c, x, rfl, hz1, hz2, hxz, hxP, D0, D1, D2, E2, HGx, HOx, HCx, HTx, hsx, hb8w⟩ := hrel
            have d0 := D0.out
            have d1 := D1.out
            have d2 := D2.out
            have hx8 : x.length ≤ 9 := by omega
            by_cases hz0 : 0 ≤ z
            · obtain ⟨m, rfl⟩ : ∃ m : Nat, z = (m : Int) := ⟨z.toNat, by omega⟩
              have hm : m < xs.length := by omega
              have hq := (HOx.out.cellStr m hm).1
              have Hs : Hid (changeP n xs[m]) := Lib.hid (hhP.out _ (List.getElem_mem hm))
              obtain ⟨s, hs⟩ : ∃ s, Hid (xs[m] = s) := ⟨_, Lib.hid rfl⟩
              rw [hs.out] at hq Hs
              have hwz : IntKind.i64.wrap ((m : Int) - 1) = (m : Int) - 1 := IntWalk.i64_in _ (by omega)
              have hqa := (((Below.refl wr.heap.size wr).alloc (Nat.le_refl _) (.cells #[.string s] 9)).cell (p := ⟨bx, 2, none⟩) (show bx < wr.heap.size by omega)).trans d2
              go_upto_region 22 with fail
              go_region_law (show (if _ = true then Oper.wp _ _ _ ((wr.drew).alloc (.cells #[.string s] 9)) _ _ else _); refine step_pushA rfl (.tmp 82) (.tmp 87) 25 rfl b8 9 _ 1 16 encString rfl String_info rfl (by omega) (.slice A x.length c) x [s] 1 rfl rfl rfl (by exact HGx.out) rfl encString_len (Hone.out s) (by simp) (by simp only [List.length_singleton]; omega) (by omega) (by exact hb8w) ?_; intro v' w4 hg4 hb4 hgb4 hk4; have s0 := (hb4.cell (p := ⟨bx, 0, none⟩) hb8x).trans D0.out; have s1 := (hb4.cell (p := ⟨bx, 1, none⟩) hb8x).trans D1.out; have s2 := (hb4.cell (p := ⟨bx, 2, none⟩) hb8x).trans D2.out; have s3 := (hb4.frozen (p := ⟨bx, 2, none⟩) hb8x).trans E2.out; obtain ⟨A4, c4, hv4, _⟩ := hg4.own encString_len; subst hv4; have HG4 := Lib.hid hg4; have HB4 : Hid (Below b8 wr w4) := Lib.hid ⟨hb4.os, hb4.tape, hb4.output, hb4.size, hb4.block⟩; clear hg4 hb4 hgb4 hk4)
              all_goals
                clear hqa hq
                go_wp2
                have hz4 := HB4.out.size
                have HBs := Lib.hid ((Below.refl bx w4).setCell (p := ⟨bx, 2, none⟩) (Nat.le_refl _) (.slice A4 (x.length + 1) c4))
                have hxe : (x ++ [s]).length = x.length + 1 := by simp
                have HP4 : Hid (∀ q ∈ x ++ [s], changeP n q) := Lib.hid (fun q hq => by
                  rcases List.mem_append.1 hq with hq | hq
                  · exact hxP.out q hq
                  · rw [List.mem_singleton.1 hq]; exact Hs.out)
                obtain ⟨wD, hwD⟩ : ∃ wD, Hid (w4.setCell ⟨bx, 2, none⟩ (.slice A4 (x.length + 1) c4) = wD) := ⟨_, Lib.hid rfl⟩
                have S0 : Hid (wD.cell? ⟨bx, 0, none⟩ = some (.string nm)) := Lib.hid (by rw [← hwD.out, World.cell?_setCell_other _ _ _ _ (fun e => by injection e with _ e; omega)]; exact s0)
                have S1 : Hid (wD.cell? ⟨bx, 1, none⟩ = some (.int .i64 n)) := Lib.hid (by rw [← hwD.out, World.cell?_setCell_other _ _ _ _ (fun e => by injection e with _ e; omega)]; exact s1)
                have S2 : Hid (wD.cell? ⟨bx, 2, none⟩ = some (.slice A4 (x ++ [s]).length c4)) := Lib.hid (by rw [← hwD.out, hxe]; exact World.cell?_setCell_same _ _ _ s2)
                have S3 : Hid (wD.frozen? ⟨bx, 2, none⟩ = false) := Lib.hid (by rw [← hwD.out, World.frozen?_setCell]; exact s3)
                have kk : Chg bx (bx + 1) w4 wD := by rw [← hwD.out]; exact (Chg.refl _ _ w4).setCell (p := ⟨bx, 2, none⟩) (Nat.le_refl _) (Nat.lt_succ_self _) _
                have HGD : Hid (Grow wD b8 9 1 encString (.slice A4 (x ++ [s]).length c4) (x ++ [s])) := Lib.hid (by rw [← hwD.out]; exact HG4.out.set (p := ⟨bx, 2, none⟩) hb8x _)
                have HOD := Lib.hid ((HOx.out.chg (Chg.ofB HB4.out) (.inl (Nat.le_refl _))).chg kk (.inr (Nat.le_refl _)))
                have HCD : Hid (Cur wD g (K + 22)) := Lib.hid (by rw [← hwD.out]; exact (HCx.out.keep HB4.out (by omega)).keep HBs.out hgx)
                have HTD : Hid (Turn g W0 wD) := Lib.hid (by rw [← hwD.out]; exact (HTx.out.thenB (HB4.out.mono (by omega))).thenB (HBs.out.mono hbz))
                have hsD := kk.size
                rw [hwD.out]
                go_roundw
                case rel => exact ⟨(m : Int) - 1, A4, c4, x ++ [s], by rfl, by omega, by omega, (by rw [hxe]; omega), HP4, S0, S1, S2, S3, HGD, HOD, HCD, HTD, by omega, by omega⟩
                case measure => (simp [intOf] <;> omega)
            · obtain rfl : z = -1 := by omega
              have hxl9 : x.length ≤ 9 := hx8
              have HGy := Lib.hid (HGx.out.lo (base' := bx + 1) (by omega))
              clear HGx
              have HGx := HGy
              have Ham : Hid (∀ W : World, Below wr.heap.size wr W → Calls Tryz.prog 87 #[.pointer (some ⟨g, 0, none⟩), .int .i64 n] W fun e w' => ∃ v, e = .returned v ∧ ∃ s : ByteArray, v = .string s ∧ changeP n s ∧ Cur w' g (K + 22 + 2) ∧ Turn g wr w') := Lib.hid (fun W hb => by
have hca := change_any g (K + 22) n.toNat W (HCx.out.later hb) (by omega) (by omega) (by omega)
rw [show ((n.toNat : Nat) : Int) = n by omega] at hca
exact hca.mono fun e w' ⟨s, he, hs, hc, ht⟩ => ⟨_, he, s, rfl, hs, hc, (Turn.of hb).trans ht⟩)
              have Hone : Hid (∀ x : ByteArray, ∀ u ∈ [Value.string x], u.oneCell' = true) := Lib.hid (by intro x u hu; simp at hu; subst hu; rfl)
              go_upto_region 23 with fail
              go_region_law (first
                | (refine step_callsX (by rfl) 87 (by rfl) #[.pointer (some ⟨g, 0, none⟩), .int .i64 n] (by go_simp) (Ham.out _ (by repeat (first | exact Below.refl _ _ | refine Below.drew ?_ | refine Below.alloc ?_ (Nat.le_refl _) _))) ?_; rintro v w3 ⟨s, rfl, hs, hc3, ht3⟩; have Hs := Lib.hid hs; have HC3 := Lib.hid hc3; have HT3 := Lib.hid ht3; have hz3 := ht3.size; have q0 := (ht3.cell (p := ⟨bx, 0, none⟩) hsx (by simp; omega)).trans D0.out; have q1 := (ht3.cell (p := ⟨bx, 1, none⟩) hsx (by simp; omega)).trans D1.out; have q2 := (ht3.cell (p := ⟨bx, 2, none⟩) hsx (by simp; omega)).trans D2.out; have q3 : w3.frozen? ⟨bx, 2, none⟩ = false := (frozen_of_turn ht3 hsx (by omega) 2).trans E2.out; have q2a := (((Below.refl w3.heap.size w3).alloc (Nat.le_refl _) (.cells #[.string s] 9)).cell (p := ⟨bx, 2, none⟩) (show bx < w3.heap.size by omega)).trans q2; clear hs hc3 ht3)
                | (refine step_pushA rfl (.tmp 91) (.tmp 95) 25 rfl (bx + 1) 9 _ 1 16 encString rfl String_info rfl (by omega) (.slice A x.length c) x [s] 1 rfl rfl rfl (HGx.out.turn HT3.out (by omega)) rfl encString_len (Hone.out s) (by simp) (by simp only [List.length_singleton]; omega) (by omega) (by omega) ?_; intro v' w4 hg4 hb4 hgb4 hk4; have s0 := (hb4.cell (p := ⟨bx, 0, none⟩) (Nat.lt_succ_self _)).trans q0; have s1 := (hb4.cell (p := ⟨bx, 1, none⟩) (Nat.lt_succ_self _)).trans q1; have s2 := (hb4.cell (p := ⟨bx, 2, none⟩) (Nat.lt_succ_self _)).trans q2; have s3 := (hb4.frozen (p := ⟨bx, 2, none⟩) (Nat.lt_succ_self _)).trans q3; obtain ⟨A4, c4, hv4, _⟩ := hg4.own encString_len; subst hv4; have HG4 := Lib.hid hg4; have HB4 := Lib.hid hb4; clear hg4 hb4 hgb4 hk4))
              all_goals
                clear q2a
                go_upto_region 24 with fail
                have HBs := Lib.hid ((Below.refl bx w4).setCell (p := ⟨bx, 2, none⟩) (Nat.le_refl _) (.slice A4 (x.length + 1) c4))
                have hxe : (x ++ [s]).length = x.length + 1 := by simp
                have HP4 : Hid (∀ q ∈ x ++ [s], changeP n q) := Lib.hid (fun q hq => by
                  rcases List.mem_append.1 hq with hq | hq
                  · exact hxP.out q hq
                  · rw [List.mem_singleton.1 hq]; exact Hs.out)
                have S0 : Hid ((w4.setCell ⟨bx, 2, none⟩ (.slice A4 (x.length + 1) c4)).cell? ⟨bx, 0, none⟩ = some (.string nm)) := Lib.hid (by rw [World.cell?_setCell_other _ _ _ _ (fun e => by injection e with _ e; omega)]; exact s0)
                have S1 : Hid ((w4.setCell ⟨bx, 2, none⟩ (.slice A4 (x.length + 1) c4)).cell? ⟨bx, 1, none⟩ = some (.int .i64 n)) := Lib.hid (by rw [World.cell?_setCell_other _ _ _ _ (fun e => by injection e with _ e; omega)]; exact s1)
                have S2 : Hid ((w4.setCell ⟨bx, 2, none⟩ (.slice A4 (x.length + 1) c4)).cell? ⟨bx, 2, none⟩ = some (.slice A4 (x ++ [s]).length c4)) := Lib.hid (by rw [hxe]; exact World.cell?_setCell_same _ _ _ s2)
                have S3 : Hid ((w4.setCell ⟨bx, 2, none⟩ (.slice A4 (x.length + 1) c4)).frozen? ⟨bx, 2, none⟩ = false) := Lib.hid (by rw [World.frozen?_setCell]; exact s3)
                have HG5 := Lib.hid (HG4.out.set (p := ⟨bx, 2, none⟩) (Nat.lt_succ_self _) (.slice A4 (x.length + 1) c4))
                have HC5b := Lib.hid ((HC3.out.keep HB4.out (Nat.lt_succ_of_lt hgx)).keep HBs.out hgx)
                have HT5b := Lib.hid (((HTx.out.trans HT3.out).thenB (HB4.out.mono (by omega))).thenB (HBs.out.mono hbz))
                have hs5b : bx < (w4.setCell ⟨bx, 2, none⟩ (.slice A4 (x.length + 1) c4)).heap.size := by have := HB4.out.size; have := HBs.out.size; omega
                obtain ⟨wF, hwF⟩ : ∃ wF, Hid (w4.setCell ⟨bx, 2, none⟩ (.slice A4 (x.length + 1) c4) = wF) := ⟨_, Lib.hid rfl⟩
                rw [hwF.out] at S0 S1 S2 S3 HG5 HC5b HT5b hs5b ⊢
                obtain ⟨x5, hx5⟩ : ∃ x5, Hid (x ++ [s] = x5) := ⟨_, Lib.hid rfl⟩
                have hx5l : x5.length = x.length + 1 := by rw [← hx5.out]; simp
                rw [hx5.out] at S2 HG5 HP4
                have t0 := S0.out
                have t1 := S1.out
                have t2 := S2.out
                have hx0 : 0 < x5.length := by omega
                have hx12 : x5.length ≤ 12 := by omega
                clear d0 d1 d2 s0 s1 s2 s3 q0 q1 q2 q3 hxe hx5l
                have HO : Hid (OwnL wF (bx + 1) (wF).heap.size A4 1 encString x5) := Lib.hid (by
                  obtain ⟨A9, c9, e9, o9⟩ := HG5.out.own encString_len
                  injection e9 with e9 _ _
                  rw [e9]; exact o9)
                have hcap := HG5.out.capN
                have hcr := hR.out.chg HT5b.out (.inr (by omega))
                have r0 := hcr.cell (i := 0) (by omega)
                have r1 := hcr.cell (i := 1) (by omega)
                have r2 := hcr.cell (i := 2) (by omega)
                have rf0 := hcr.free (i := 0) (by omega)
                have rf1 := hcr.free (i := 1) (by omega)
                have rf2 := hcr.free (i := 2) (by omega)
                have hsw : w.heap.size < (wF).heap.size := by omega
                clear hcr
                go_wp2
                refine bodyPost_ret (v := .agg #[.string nm, .int .i64 n, .slice A4 x5.length c4]) (by simp [results, Tryz.results64, go_sem, r0, r1, r2, rf0, rf1, rf2]) rfl ?_
                have kk : Chg w.heap.size (w.heap.size + 1) wF (setN wF w.heap.size 0 [Value.string nm, .int .i64 n, .slice A4 x5.length c4]) := Chg.setN (Nat.le_refl _) (Nat.lt_succ_self _) _ (Chg.refl _ _ wF)
                have kb : Below w.heap.size wF (setN wF w.heap.size 0 [Value.string nm, .int .i64 n, .slice A4 x5.length c4]) := Below.chg (Below.refl _ _) kk (Nat.le_refl _) (by omega)
                exact ⟨nm, n, x5, A4, c4, rfl, ⟨hn3, hn6, Hnm.out, hx0, by omega, HP4.out⟩, hcap, (HO.out.chg kk (.inr (by omega))).mono (by omega) kk.size, (HC5b.out.keep kb hgw).more (by omega), ((Turn.of hWb.out).trans HT5b.out).thenB kb⟩
end Go.Proofs.YtglnehinmdmgmaaGreat
