import Derived.Test.YtglnehinmdmgmaaGreatMErrorsL19
import Derived.Test.YtglnehinmdmgmaaGreatMErrorsL28
import Derived.Test.YtglnehinmdmgmaaGreatMErrorsL04
import Derived.Deep.Cut
import Derived.Deep.CutRange
import Derived.StillTailTactics
/-
  The suffix costs: the program's table.
-/
namespace Go.Proofs.YtglnehinmdmgmaaGreat
open Go.RowKit
set_option linter.unusedVariables false
set_option linter.unusedSimpArgs false
set_option maxRecDepth 100000

/-- The least of the first k options, as the program's loop finds it. -/
def mO (O : List Int) : Nat → Int
  | 0 => 0
  | k + 1 => if k = 0 ∨ O.getD k 0 < mO O k then O.getD k 0 else mO O k
/-- A table in the making whose row i has c at place j, numbers behind it. -/
def RowC (w : World) (g m n i : Nat) (h : Nat → Nat) (F : Nat → Nat → Int) (j : Nat) (c : Int) : Prop :=
  Cells w g (m + 1) (outT n i h) ∧ g < h i ∧ Cells w (h i) (n + 1) (fun q => if q = j then .int .i64 c else rowT F i (j + 1) q) ∧ ∀ k, i < k → k ≤ m → g < h k ∧ h k ≠ h i ∧ Cells w (h k) (n + 1) (fun j => .int .i64 (F k j))
section
variable {w w' : World} {g m n i j : Nat} {h : Nat → Nat} {F : Nat → Nat → Int} {c : Int}
theorem RowC.start (t : RowW w g m n i h F (j + 1)) : RowC w g m n i h F j 0 :=
  ⟨t.1, t.2.1, t.2.2.1.congr fun q hq => by
    by_cases e : q = j
    · subst e; unfold rowT; rw [if_neg (by omega), if_pos rfl]
    · rw [if_neg e], t.2.2.2⟩
theorem RowC.later (t : RowC w g m n i h F j c) (hb : Below w.heap.size w w') : RowC w' g m n i h F j c :=
  ⟨t.1.later hb, t.2.1, t.2.2.1.later hb, fun k h1 h2 => ⟨(t.2.2.2 k h1 h2).1, (t.2.2.2 k h1 h2).2.1, (t.2.2.2 k h1 h2).2.2.later hb⟩⟩
theorem RowC.keep {b : Nat} (t : RowC w g m n i h F j c) (hb : Below b w w') (hg : g < b) (hh : ∀ k, i ≤ k → k ≤ m → h k < b) (hi : i ≤ m) : RowC w' g m n i h F j c :=
  ⟨t.1.below hb hg, t.2.1, t.2.2.1.below hb (hh i (Nat.le_refl _) hi), fun k h1 h2 => ⟨(t.2.2.2 k h1 h2).1, (t.2.2.2 k h1 h2).2.1, (t.2.2.2 k h1 h2).2.2.below hb (hh k (by omega) h2)⟩⟩
theorem RowC.old (t : RowC w g m n i h F j c) {k q : Nat} (h1 : i < k) (h2 : k ≤ m) (h3 : q ≤ n) : w.cell? ⟨h k, q, none⟩ = some (.int .i64 (F k q)) := (t.2.2.2 k h1 h2).2.2.cell (i := q) (by omega)
theorem RowC.next (t : RowC w g m n i h F j c) {q : Nat} (h1 : j < q) (h3 : q ≤ n) : w.cell? ⟨h i, q, none⟩ = some (.int .i64 (F i q)) := by
  have := t.2.2.1.cell (i := q) (by omega)
  unfold rowT at this
  rw [if_neg (by omega), if_pos (by omega)] at this; exact this
theorem RowC.store (t : RowC w g m n i h F j c) (hj : j ≤ n) (c' : Int) : RowC (w.setCell ⟨h i, j, none⟩ (.int .i64 c')) g m n i h F j c' := by
  refine ⟨t.1.other (by show h i ≠ g; have := t.2.1; omega) _, t.2.1, (t.2.2.1.set (i := j) (by omega) _).congr fun q hq => ?_, fun k h1 h2 => ?_⟩
  · by_cases e : q = j
    · subst e; simp [upd]
    · simp [upd, e]
  · have hk := t.2.2.2 k h1 h2
    exact ⟨hk.1, hk.2.1, hk.2.2.other (by show h i ≠ h k; exact fun e => hk.2.1 e.symm) _⟩
theorem RowC.done (t : RowC w g m n i h F j (F i j)) : RowW w g m n i h F j :=
  ⟨t.1, t.2.1, t.2.2.1.congr fun q hq => by
    by_cases e : q = j
    · subst e; unfold rowT; rw [if_pos (Nat.le_refl _), if_pos rfl]
    · unfold rowT
      rw [if_neg e]
      by_cases e2 : j ≤ q
      · rw [if_pos e2, if_pos (by omega)]
      · rw [if_neg e2, if_neg (by omega)], t.2.2.2⟩
theorem RowC.outer (t : RowC w g m n i h F j c) {k : Nat} (h1 : i ≤ k) (h2 : k ≤ m) : w.cell? ⟨g, k, none⟩ = some (.slice (some ⟨h k, 0, none⟩) (n + 1) (n + 1)) := by
  have := t.1.cell (i := k) (by omega)
  unfold outT at this
  rw [if_pos h1] at this; exact this
theorem RowC.cur (t : RowC w g m n i h F j c) (hj : j ≤ n) : w.cell? ⟨h i, j, none⟩ = some (.int .i64 c) := by
  have := t.2.2.1.cell (i := j) (by omega)
  rw [if_pos rfl] at this; exact this
theorem RowC.free (t : RowC w g m n i h F j c) (hj : j ≤ n) : w.frozen? ⟨h i, j, none⟩ = false := t.2.2.1.free (i := j) (by omega)
end





set_option maxHeartbeats 6400000 in
theorem prices_any (a b : List Int) (s : Int) (A B_ : Option Addr) (c c' : Nat) (w : World) (ha : RdL w w.heap.size A 1 encInt a) (hb : RdL w w.heap.size B_ 1 encInt b) (hp : askP a b s) : Calls Tryz.prog 94 #[.slice A a.length c, .slice B_ b.length c', .int .i64 s] w fun e w' => ∃ (g : Nat) (h : Nat → Nat), e = .returned (.slice (some ⟨g, 0, none⟩) (a.length + 1) (a.length + 1)) ∧ w.heap.size ≤ g ∧ TabW w' g a.length b.length 0 h (pM s a b) ∧ Below w.heap.size w w' := by
  have Ha := Lib.hid ha
  have Hb := Lib.hid hb
  have HP := Lib.hid hp
  have hla := hp.1.1
  have hlb := hp.2.1.1
  obtain ⟨hs0, hs1⟩ := hp.2.2
  have HF := Lib.hid (fun i j => hp.bd i j)
  clear ha hb hp
  obtain ⟨F, hF⟩ : ∃ F, Hid (pM s a b = F) := ⟨_, Lib.hid rfl⟩
  rw [hF.out] at HF ⊢
  obtain ⟨m, hm⟩ : ∃ m, Hid (a.length = m) := ⟨_, Lib.hid rfl⟩
  obtain ⟨n, hn⟩ : ∃ n, Hid (b.length = n) := ⟨_, Lib.hid rfl⟩
  rw [hm.out] at hla ⊢
  rw [hn.out] at hlb ⊢
  have hw1 : IntKind.i64.wrap ((m : Int) + 1) = ((m + 1 : Nat) : Int) := by rw [IntWalk.i64_in _ (by omega)]; omega
  have hw2 : IntKind.i64.wrap ((n : Int) + 1) = ((n + 1 : Nat) : Int) := by rw [IntWalk.i64_in _ (by omega)]; omega
  go_enter Tryz.func94, Tryz.ntmps94
  go_upto_region 3 with (first | (refine wpList_make_cells rfl 116 _ rfl 24 _ 24 rfl IntS_info rfl .i64 (m + 1) (show Value.int .i64 ((m : Int) + 1) = Value.int .i64 ((m + 1 : Nat) : Int) from congrArg _ (by omega)) (by omega) (by omega) ?_; intro w1 hc1 hb1 _; have HC1 := Lib.hid hc1; have HB1 := Lib.hid hb1; clear hc1 hb1) | fail)
  obtain ⟨g, hg⟩ : ∃ g, Hid (w.heap.size = g) := ⟨_, Lib.hid rfl⟩
  have hTS : Hid (TabW w1 g m n (m + 1) (fun k => k) F) := Lib.hid (by rw [hg.out] at HC1; exact TabW.start HC1.out _)
  have hgg := hg.out
  rw [hg.out] at HB1 HC1 ⊢
  clear HC1
  go_loopw [8] (fun i wr => ∃ (lo : Nat) (h : Nat → Nat), lo ≤ m + 1 ∧ i = .int .i64 ((lo : Int) - 1) ∧ Hid (TabW wr g m n lo h F) ∧ Hid (Below g w wr)) (fun i _ => (intOf i + 1).toNat)
  case atStart => exact ⟨m + 1, _, by omega, (by refine congrArg _ ?_; omega), hTS, HB1⟩
  case round =>
    obtain ⟨lo, h, hlo, rfl, HT, HB⟩ := hrel
    clear hTS HB1
    cases lo with
    | zero =>
      go_wp2
      go_ret
      exact ⟨g, h, rfl, by omega, HT.out, by rw [hgg]; exact HB.out⟩
    | succ i =>
      rw [show ((i + 1 : Nat) : Int) - 1 = (i : Int) by omega]
      have hi : i ≤ m := by omega
      go_upto_region 7 with (first | (refine wpList_make_cells rfl 24 _ rfl 3 _ 8 rfl Int_info rfl .i64 (n + 1) (show Value.int .i64 ((n : Int) + 1) = Value.int .i64 ((n + 1 : Nat) : Int) from congrArg _ (by omega)) (by omega) (by omega) ?_; intro w2 hc2 hb2 _; have o0 := (HT.out.1.later hb2).cell (i := i) (by omega); have o1 := (HT.out.1.later hb2).free (i := i) (by omega); have HC2 := Lib.hid hc2; have HB2 := Lib.hid hb2; clear hc2 hb2) | fail)
      obtain ⟨h', V, hVe, HR, HBV⟩ : ∃ (h' : Nat → Nat) (V : World), Hid (w2.setCell ⟨g, i, none⟩ (.slice (some ⟨wr.heap.size, 0, none⟩) (n + 1) (n + 1)) = V) ∧ Hid (RowW V g m n i h' F (n + 1)) ∧ Hid (Below g w V) :=
        ⟨_, _, Lib.hid rfl, Lib.hid (HT.out.row hi HC2.out HB2.out), Lib.hid ((HB.out.trans (HB2.out.mono (Nat.le_of_lt HT.out.1.lt))).setCell (p := ⟨g, i, none⟩) (Nat.le_refl _) _)⟩
      rw [hVe.out]
      clear hVe o0 o1 HC2 HB2 HT HB
      go_loopw [9] (fun v wr2 => ∃ jlo : Nat, jlo ≤ n + 1 ∧ v = .int .i64 ((jlo : Int) - 1) ∧ Hid (RowW wr2 g m n i h' F jlo) ∧ Hid (Below g w wr2)) (fun v _ => (intOf v + 1).toNat)
      case atStart => exact ⟨n + 1, by omega, (by refine congrArg _ ?_; omega), HR, HBV⟩
      case round =>
        obtain ⟨jlo, hjlo, rfl, HR2, HB2⟩ := hrel
        clear HR HBV
        cases jlo with
        | zero =>
          go_wp2
          go_roundw
          case rel => exact ⟨i, h', by omega, (by refine congrArg _ ?_; omega), Lib.hid HR2.out.close, HB2⟩
          case measure => first | (simp [intOf]; done) | (simp [intOf]; omega)
        | succ j =>
          rw [show ((j + 1 : Nat) : Int) - 1 = (j : Int) by omega]
          have hj : j ≤ n := by omega
          have hgl : g < wr.heap.size := HR2.out.1.lt
          have hhl : Hid (∀ k, i ≤ k → k ≤ m → h' k < wr.heap.size) := Lib.hid fun k h1 h2 => by
            by_cases e : k = i
            · subst e; exact HR2.out.2.2.1.lt
            · exact (HR2.out.2.2.2 k (by omega) h2).2.2.lt
          obtain ⟨gb, hgb⟩ : ∃ gb, Hid (wr.heap.size = gb) := ⟨_, Lib.hid rfl⟩
          go_upto_region 10 with fail
          obtain ⟨V0, hVe, HR0, HG0, HB0, hgz⟩ : ∃ V0 : World, Hid (wr.alloc (.cells #[] 3) = V0) ∧ Hid (RowC V0 g m n i h' F j 0) ∧ Hid (Grow V0 gb 3 1 encInt (.slice (some ⟨gb, 0, none⟩) 0 0) []) ∧ Hid (Below g w V0) ∧ gb < V0.heap.size :=
            ⟨_, Lib.hid rfl, Lib.hid ((RowC.start HR2.out).later ((Below.refl _ _).alloc (Nat.le_refl _) _)), Lib.hid (by rw [← hgb.out]; exact Grow.empty (Nat.le_refl _)), Lib.hid (HB2.out.alloc (Nat.le_of_lt hgl) _), by simp [hgb.out]⟩
          rw [hgb.out] at hgl hhl
          rw [hVe.out, hgb.out]
          obtain ⟨v0, hv0⟩ : ∃ v, Hid ((Value.slice (some ⟨gb, 0, none⟩) 0 0) = v) := ⟨_, Lib.hid rfl⟩
          rw [hv0.out] at HG0 ⊢
          clear hVe HR2 HB2
          have hcase : (i = m ∧ j = n) ∨ (i < m ∧ j = n) ∨ (i = m ∧ j < n) ∨ (i < m ∧ j < n) := by omega
          rcases hcase with ⟨e1, e2⟩ | ⟨e1, e2⟩ | ⟨e1, e2⟩ | ⟨e1, e2⟩
          focus
            have hfin : Hid (mO [] 0 = F i j) := Lib.hid (by rw [← hF.out, pM_end j i (by rw [hm.out]; omega), hn.out, e2]; simp [mO])
            have d1 : ¬ ((i : Int) < (m : Int)) := by omega
            have d2 : ¬ ((j : Int) < (n : Int)) := by omega
            clear e1 e2
            go_upto_region 16 with fail
            obtain ⟨Ow, Ov, O, hO, HGO, HRO, HBO, hfo⟩ : ∃ (Ow : World) (Ov : Value) (O : List Int), (V0 = Ow ∧ v0 = Ov) ∧ Hid (Grow Ow gb 3 1 encInt Ov O) ∧ Hid (RowC Ow g m n i h' F j 0) ∧ Hid (Below g w Ow) ∧ Hid (mO O O.length = F i j) := ⟨_, _, [], ⟨rfl, rfl⟩, HG0, HR0, HB0, hfin⟩
            obtain ⟨rfl, rfl⟩ := hO
            obtain ⟨A10, c10, hv, ho⟩ := HGO.out.own encInt_len
            subst hv
            clear ho
            go_wp2
          rotate_left
          focus
            have hfin : Hid (F i j = s + F (i + 1) j) := Lib.hid (by rw [← hF.out, pM_edge i j (by rw [hn.out]; omega), pM_edge (i + 1) j (by rw [hn.out]; omega), hm.out, show m - i = m - (i + 1) + 1 by omega, Int.natCast_add, Int.mul_add]; omega)
            have d1 : (i : Int) < (m : Int) := by omega
            have d2 : ¬ ((j : Int) < (n : Int)) := by omega
            obtain ⟨f1a, f1b⟩ := HF.out (i + 1) j
            have p4 := HR0.out.outer (k := i + 1) (by omega) (by omega)
            have q1 := HR0.out.old (k := i + 1) (q := j) (by omega) (by omega) hj
            clear e1 e2
            generalize F (i + 1) j = f1 at hfin f1a f1b q1
            go_upto_region 16 with (first | (at_builtin; refine wpList_pushA rfl (.tmp 41) (.tmp 52) 24 rfl gb 3 _ 1 8 encInt rfl Int_info rfl (by omega) _ ([]) [s + f1] 1 rfl rfl rfl (HG0).out rfl encInt_len (by simp [encInt, Value.oneCell']) (by simp) (by omega) (by omega) ?_; intro Ov Ow g9 b9 _ _; have HGO := Lib.hid g9; have HRO := Lib.hid ((HR0).out.keep b9 hgl hhl.out hi); have HBO := Lib.hid ((HB0).out.trans (b9.mono (by omega))); have hzO := b9.size; clear g9 b9) | fail)
            have hfo : Hid (mO ([] ++ [s + f1]) ([] ++ [s + f1]).length = F i j) := Lib.hid (by rw [hfin.out]; simp [mO])
            obtain ⟨O, hO⟩ : ∃ O, Hid ([] ++ [s + f1] = O) := ⟨_, Lib.hid rfl⟩
            rw [hO.out] at hfo HGO
            obtain ⟨A10, c10, hv, ho⟩ := HGO.out.own encInt_len
            subst hv
            clear ho
            go_wp2
          rotate_left
          focus
            have hfin : Hid (F i j = s + F i (j + 1)) := Lib.hid (by rw [← hF.out, pM_end j i (by rw [hm.out]; omega), pM_end (j + 1) i (by rw [hm.out]; omega), hn.out, show n - j = n - (j + 1) + 1 by omega, Int.natCast_add, Int.mul_add]; omega)
            have d1 : ¬ ((i : Int) < (m : Int)) := by omega
            have d2 : (j : Int) < (n : Int) := by omega
            obtain ⟨f1a, f1b⟩ := HF.out i (j + 1)
            have p4 := HR0.out.outer (k := i) (Nat.le_refl _) hi
            have q1 := HR0.out.next (q := j + 1) (by omega) (by omega)
            clear e1 e2
            generalize F i (j + 1) = f1 at hfin f1a f1b q1
            go_upto_region 16 with (first | (at_builtin; refine wpList_pushA rfl (.tmp 58) (.tmp 69) 24 rfl gb 3 _ 1 8 encInt rfl Int_info rfl (by omega) _ ([]) [s + f1] 1 rfl rfl rfl (HG0).out rfl encInt_len (by simp [encInt, Value.oneCell']) (by simp) (by omega) (by omega) ?_; intro Ov Ow g9 b9 _ _; have HGO := Lib.hid g9; have HRO := Lib.hid ((HR0).out.keep b9 hgl hhl.out hi); have HBO := Lib.hid ((HB0).out.trans (b9.mono (by omega))); have hzO := b9.size; clear g9 b9) | fail)
            have hfo : Hid (mO ([] ++ [s + f1]) ([] ++ [s + f1]).length = F i j) := Lib.hid (by rw [hfin.out]; simp [mO])
            obtain ⟨O, hO⟩ : ∃ O, Hid ([] ++ [s + f1] = O) := ⟨_, Lib.hid rfl⟩
            rw [hO.out] at hfo HGO
            obtain ⟨A10, c10, hv, ho⟩ := HGO.out.own encInt_len
            subst hv
            clear ho
            go_wp2
          rotate_left
          focus
            have d1 : (i : Int) < (m : Int) := by omega
            have d2 : (j : Int) < (n : Int) := by omega
            obtain ⟨ga, oa, hA, hga, hca⟩ := Ha.out.at (k := i) (by rw [hm.out]; exact e1)
            obtain ⟨gB, ob, hB, hgB, hcb⟩ := Hb.out.at (k := j) (by rw [hn.out]; exact e2)
            have hfr := HP.out.far (i := i) (j := j) (by rw [hm.out]; exact e1) (by rw [hn.out]; exact e2)
            have hmid : Hid (F i j = min (min (s + F (i + 1) j) (s + F i (j + 1))) (absV (a[i]'(by rw [hm.out]; exact e1) - b[j]'(by rw [hn.out]; exact e2)) + F (i + 1) (j + 1))) := Lib.hid (by rw [← hF.out, pM_mid (by rw [hm.out]; exact e1) (by rw [hn.out]; exact e2), farM_abs, getD_get (by rw [hm.out]; exact e1), getD_get (by rw [hn.out]; exact e2)])
            have ra := hca 0 _ rfl
            have rb := hcb 0 _ rfl
            rw [Nat.mul_one, Nat.add_zero] at ra rb
            subst hA hB
            clear hca hcb
            obtain ⟨xa, hxa⟩ : ∃ xa, Hid (a[i]'(by rw [hm.out]; exact e1) = xa) := ⟨_, Lib.hid rfl⟩
            obtain ⟨xb, hxb⟩ : ∃ xb, Hid (b[j]'(by rw [hn.out]; exact e2) = xb) := ⟨_, Lib.hid rfl⟩
            rw [hxa.out] at ra hfr hmid
            rw [hxb.out] at rb hfr hmid
            obtain ⟨xa1, xa2, xb1, xb2, u1, u2⟩ := hfr
            obtain ⟨u, hu⟩ : ∃ u, Hid (absV (xa - xb) = u) := ⟨_, Lib.hid rfl⟩
            rw [hu.out] at u1 u2 hmid
            have hAbs : Hid (∀ W, Calls Tryz.prog 21 #[.int .i64 (xa - xb)] W fun e w' => e = .returned (.int .i64 u) ∧ W = w') := Lib.hid fun W => by
              have := absF_any (xa - xb) W (by unfold inB; omega)
              rw [hu.out] at this; exact this
            obtain ⟨f1a, f1b⟩ := HF.out (i + 1) j
            obtain ⟨f2a, f2b⟩ := HF.out i (j + 1)
            obtain ⟨f3a, f3b⟩ := HF.out (i + 1) (j + 1)
            obtain ⟨f1, hf1⟩ : ∃ f1, Hid (F (i + 1) j = f1) := ⟨_, Lib.hid rfl⟩
            obtain ⟨f2, hf2⟩ : ∃ f2, Hid (F i (j + 1) = f2) := ⟨_, Lib.hid rfl⟩
            obtain ⟨f3, hf3⟩ : ∃ f3, Hid (F (i + 1) (j + 1) = f3) := ⟨_, Lib.hid rfl⟩
            rw [hf1.out] at f1a f1b hmid
            rw [hf2.out] at f2a f2b hmid
            rw [hf3.out] at f3a f3b hmid
            have p4 := HR0.out.outer (k := i + 1) (by omega) (by omega)
            have q1 := HR0.out.old (k := i + 1) (q := j) (by omega) (by omega) hj
            rw [hf1.out] at q1
            go_upto_if 80 with (first
              | ((at_builtin; refine wpList_pushA rfl (.tmp 41) (.tmp 52) 24 rfl gb 3 _ 1 8 encInt rfl Int_info rfl (by omega) _ ([]) [s + f1] 1 rfl rfl rfl (HG0).out rfl encInt_len (by simp [encInt, Value.oneCell']) (by simp) (by omega) (by omega) ?_; intro Xv Xw g9 b9 _ _; have HGX := Lib.hid g9; have HRX := Lib.hid ((HR0).out.keep b9 hgl hhl.out hi); have HBX := Lib.hid ((HB0).out.trans (b9.mono (by omega))); have hzX := b9.size; clear g9 b9); have p3 := HRX.out.outer (k := i) (Nat.le_refl _) hi; have q2 := HRX.out.next (q := j + 1) (by omega) (by omega); rw [hf2.out] at q2)
              | ((at_builtin; refine wpList_pushA rfl (.tmp 58) (.tmp 69) 24 rfl gb 3 _ 1 8 encInt rfl Int_info rfl (by omega) _ ([] ++ [s + f1]) [s + f2] 1 rfl rfl rfl (HGX).out rfl encInt_len (by simp [encInt, Value.oneCell']) (by simp) (by omega) (by omega) ?_; intro Yv Yw g9 b9 _ _; have HGY := Lib.hid g9; have HRY := Lib.hid ((HRX).out.keep b9 hgl hhl.out hi); have HBY := Lib.hid ((HBX).out.trans (b9.mono (by omega))); have hzY := b9.size; clear g9 b9))
              | fail)
            clear p4 q1 p3 q2
            go_cut [10] from 32 to 131 (fun v wc => ∃ O : List Int, Hid (Grow wc gb 3 1 encInt v O) ∧ Hid (RowC wc g m n i h' F j 0) ∧ Hid (Below g w wc) ∧ Hid (mO O O.length = F i j))
            case' first =>
              have hwu : IntKind.i64.wrap (u + f3) = u + f3 := IntWalk.i64_in _ (by omega)
              have hwi : IntKind.i64.wrap ((i : Int) + 1) = (i : Int) + 1 := IntWalk.i64_in _ (by omega)
              have hwj : IntKind.i64.wrap ((j : Int) + 1) = (j : Int) + 1 := IntWalk.i64_in _ (by omega)
              have ci0 : (0 : Int) ≤ (i : Int) + 1 := by omega
              have cj0 : (0 : Int) ≤ (j : Int) + 1 := by omega
              have ti : ((i : Int) + 1).toNat = i + 1 := by omega
              have tj : ((j : Int) + 1).toNat = j + 1 := by omega
              have hws : IntKind.i64.wrap (xa - xb) = xa - xb := IntWalk.i64_in _ (by omega)
              have p4 := HRY.out.outer (k := i + 1) (by omega) (by omega)
              have q3 := HRY.out.old (k := i + 1) (q := j + 1) (by omega) (by omega) (by omega)
              rw [hf3.out] at q3
              have ra' : Yw.cell? ⟨ga, oa + i, none⟩ = some (.int .i64 xa) := (HBY.out.cell (p := ⟨ga, oa + i, none⟩) (show ga < g by omega)).trans ra
              have rb' : Yw.cell? ⟨gB, ob + j, none⟩ = some (.int .i64 xb) := (HBY.out.cell (p := ⟨gB, ob + j, none⟩) (show gB < g by omega)).trans rb
              have hzY' : gb ≤ Yw.heap.size := by omega
              have hfo0 : Hid (mO ([] ++ [s + f1] ++ [s + f2] ++ [u + f3]) ([] ++ [s + f1] ++ [s + f2] ++ [u + f3]).length = F i j) := Lib.hid (by
                rw [hmid.out]
                simp [mO]
                split <;> split <;> omega)
              have hKg0 : g < gb := hgl
              have hKh0 : Hid (∀ k, i ≤ k → k ≤ m → h' k < gb) := hhl
              clear ra rb HG0 HR0 HB0 HGX HRX HBX hmid
              go_upto_region 15 with fail
              go_region_law (first
                | (refine step_same rfl 21 rfl #[.int .i64 (xa - xb)] _ (by go_simp) (hAbs.out _) ?_)
                | (refine step_pushA rfl (.tmp 81) (.tmp 102) 24 rfl gb 3 _ 1 8 encInt rfl Int_info rfl (by omega) Yv ([] ++ [s + f1] ++ [s + f2]) [u + f3] 1 rfl rfl rfl (HGY.out.later ((Below.refl _ _).drew)) rfl encInt_len (by simp [encInt, Value.oneCell']) (by simp) (by simp) (by omega) (by simp; omega) ?_; intro v9 w9 g9 b9 _ _; have HG9 := Lib.hid g9; have HR9 := Lib.hid ((HRY.out.later (Below.refl _ _).drew).keep b9 hKg0 hKh0.out hi); have HB9 := Lib.hid (HBY.out.drew.trans (b9.mono (by omega))); clear g9 b9)
                | fail)
              all_goals
                go_wp2
                go_meet
                case rel => exact ⟨_, HG9, HR9, HB9, hfo0⟩
            case' rest =>
              obtain ⟨O, HGO, HRO, HBO, hfo⟩ := hcut
              obtain ⟨A10, c10, hv, ho⟩ := HGO.out.own encInt_len
              subst hv
              clear ho
              go_wp2
          all_goals
            clear HG0 HR0 HB0
            have hOl : O.length ≤ 9223372036854775807 := by
              rcases HGO.out.2 with ⟨_, h0⟩ | ⟨_, cap, _, _, _, _, h4, h5, _⟩
              · omega
              · unfold maxLen at h5; omega
            have hKg : Hid (h' i < gb) := Lib.hid (hhl.out i (Nat.le_refl _) hi)
            go_loopw [106] (fun q wr => ∃ k : Nat, k ≤ O.length ∧ q = .int .i64 k ∧ Hid (Grow wr gb 3 1 encInt (.slice A10 O.length c10) O) ∧ Hid (RowC wr g m n i h' F j (mO O k)) ∧ Hid (Below g w wr)) (fun q _ => O.length - (intOf q).toNat)
            case atStart => exact ⟨0, by omega, rfl, HGO, HRO, HBO⟩
            case round =>
              obtain ⟨k, hk, rfl, HG, HR, HB⟩ := hrel
              clear HGO HRO HBO
              by_cases hlt : k < O.length
              · obtain ⟨A2, c2, hv2, ho2⟩ := HG.out.own encInt_len
                injection hv2 with hv2 _ _
                subst hv2
                obtain ⟨go, oo, hA, hgo, hcell⟩ := (ho2.rd encInt_len).at hlt
                have r0 := hcell 0 _ rfl
                rw [Nat.mul_one, Nat.add_zero] at r0
                subst hA
                clear hcell ho2
                have p3 := HR.out.outer (k := i) (Nat.le_refl _) hi
                have z0 := HR.out.cur hj
                have z1 := HR.out.free hj
                have hst : Hid (mO O (k + 1) = if k = 0 ∨ O[k] < mO O k then O[k] else mO O k) := Lib.hid (by rw [mO, getD_get hlt])
                obtain ⟨y, hy⟩ : ∃ y, Hid (O[k] = y) := ⟨_, Lib.hid rfl⟩
                obtain ⟨q, hq⟩ : ∃ q, Hid (mO O k = q) := ⟨_, Lib.hid rfl⟩
                rw [hy.out] at r0 hst
                rw [hq.out] at z0 hst HR
                by_cases hc : k = 0 ∨ y < q
                · have hst2 : Hid (mO O (k + 1) = y) := Lib.hid (by rw [hst.out, if_pos hc])
                  clear hst
                  by_cases hk0 : k = 0
                  · subst hk0
                    simp only [Nat.add_zero] at r0
                    go_wp2
                    go_roundw
                    case rel => exact ⟨0 + 1, by omega, by go_num, Lib.hid (HG.out.set (p := ⟨h' i, j, none⟩) hKg.out _), Lib.hid (by rw [hst2.out]; exact HR.out.store hj y), Lib.hid (HB.out.setCell (p := ⟨h' i, j, none⟩) (Nat.le_of_lt HR.out.2.1) _)⟩
                    case measure => first | (simp [intOf]; done) | (simp [intOf]; omega)
                  · have hlq : y < q := hc.resolve_left hk0
                    have dk : ((k : Int) == 0) = false := beq_eq_false_iff_ne.2 (by omega)
                    clear hc
                    go_wp2
                    go_roundw
                    case rel => exact ⟨k + 1, by omega, by go_num, Lib.hid (HG.out.set (p := ⟨h' i, j, none⟩) hKg.out _), Lib.hid (by rw [hst2.out]; exact HR.out.store hj y), Lib.hid (HB.out.setCell (p := ⟨h' i, j, none⟩) (Nat.le_of_lt HR.out.2.1) _)⟩
                    case measure => first | (simp [intOf]; done) | (simp [intOf]; omega)
                · have hst2 : Hid (mO O (k + 1) = q) := Lib.hid (by rw [hst.out, if_neg hc])
                  clear hst
                  have dk : ((k : Int) == 0) = false := beq_eq_false_iff_ne.2 (by omega)
                  have hlq : ¬ y < q := fun x => hc (.inr x)
                  clear hc
                  go_wp2
                  go_roundw
                  case rel => exact ⟨k + 1, by omega, by go_num, HG, Lib.hid (by rw [hst2.out]; exact HR.out), HB⟩
                  case measure => first | (simp [intOf]; done) | (simp [intOf]; omega)
              · obtain rfl : k = O.length := by omega
                go_wp2
                go_roundw
                case rel => exact ⟨j, by omega, rfl, Lib.hid (RowC.done (by rw [← hfo.out]; exact HR.out)), HB⟩
                case measure => first | (simp [intOf]; done) | (simp [intOf]; omega)
end Go.Proofs.YtglnehinmdmgmaaGreat
