import Derived.Test.YtglnehinmdmgmaaMBlowsInL05
import Derived.Test.YtglnehinmdmgmaaMBlowsInL17
import Derived.Test.YtglnehinmdmgmaaMBlowsInL18
/-
  Valid lists of blows: in plain words, and the contracts of both sides.
-/
namespace Go.Proofs.Ytglnehinmdmgmaa
open Go.RowKit
set_option linter.unusedVariables false
set_option linter.unusedSimpArgs false
set_option maxRecDepth 100000

/-- One of the first blows is of a row and a place. -/
def seenTo (l : List Blw) (k : Nat) (r p : Int) : Prop := ∃ (j : Nat) (h : j < l.length), j < k ∧ l[j].row = r ∧ l[j].place = p
theorem seenTo_zero (l : List Blw) : seenTo l 0 = fun _ _ => False := by
  funext r p
  simp only [seenTo, eq_iff_iff, iff_false]
  rintro ⟨j, _, h, _⟩; omega
theorem seenTo_succ (l : List Blw) (k : Nat) (hk : k < l.length) : seenTo l (k + 1) = fun r p => seenTo l k r p ∨ (r = l[k].row ∧ p = l[k].place) := by
  funext r p
  simp only [seenTo, eq_iff_iff]
  constructor
  · rintro ⟨j, h, hj, h1, h2⟩
    rcases Nat.lt_or_eq_of_le (Nat.le_of_lt_succ hj) with h' | rfl
    · exact .inl ⟨j, h, h', h1, h2⟩
    · exact .inr ⟨h1.symm, h2.symm⟩
  · rintro (⟨j, h, hj, h1, h2⟩ | ⟨h1, h2⟩)
    · exact ⟨j, h, by omega, h1, h2⟩
    · exact ⟨k, hk, by omega, h1.symm, h2.symm⟩
def blowAtP (n : Int) (l : List Blw) (i : Nat) (hi : i < l.length) : Prop := inB l[i].row 0 800 ∧ inB l[i].place 1 n ∧ inB l[i].at_ 0 1000000 ∧ ¬ seenTo l i l[i].row l[i].place
/-- A valid list of blows of a stage. -/
def blowsP (n : Int) (l : List Blw) : Prop := inB n 3 8 ∧ l.length ≤ 400 ∧ ∀ (i : Nat) (hi : i < l.length), blowAtP n l i hi




set_option maxHeartbeats 3200000 in
theorem iBlows_any (n : Int) (l : List Blw) (A : Option Addr) (c : Nat) (w : World) (h : RdL w w.heap.size A 3 Blw.enc l) (hl : l.length ≤ 1048576) :
    Calls Try.prog 33 #[.int .i64 n, .slice A l.length c] w fun e w' => e = .returned (.bool (B (blowsP n l))) ∧ Below w.heap.size w w' := by
  have Hr := Lib.hid h
  have hmm := @run_makeMap Try.prog
  clear h
  by_cases hn : 3 ≤ n ∧ n ≤ 8
  rotate_left
  · have hn2 : n < 3 ∨ 8 < n := by omega
    have HN := Lib.hid hn
    have HN2 := Lib.hid hn2
    clear hn hn2
    go_enter Try.func33, Try.ntmps33
    go_wp2_with (go_at_call 49; refine (isStage_f n _ HN2.out).mono ?_; rintro e w' ⟨rfl, rfl⟩)
    go_ret
    exact ⟨ret_f (fun h => HN.out h.1), Below.refl _ _⟩
  obtain ⟨hn1, hn2⟩ := hn
  by_cases h4 : l.length ≤ 400
  rotate_left
  · go_enter Try.func33, Try.ntmps33
    go_wp2_with (go_at_call 49; refine (isStage_t n _ hn1 hn2).mono ?_; rintro e w' ⟨rfl, rfl⟩)
    go_ret
    exact ⟨ret_f (fun h => h4 h.2.1), Below.refl _ _⟩
  go_enter Try.func33, Try.ntmps33
  go_wp2_with (go_at_call 49; refine (isStage_t n _ hn1 hn2).mono ?_; rintro e w' ⟨rfl, rfl⟩)
  go_loopw [20] (fun i wr => ∃ k : Nat, k ≤ l.length ∧ i = .int .i64 k ∧ Sees wr w.heap.size k (seenTo l k) ∧ (∀ (j : Nat) (hj : j < l.length), j < k → blowAtP n l j hj) ∧ Below w.heap.size w wr) (fun i _ => l.length - (intOf i).toNat)
  case atStart => exact ⟨0, by omega, by rfl, by rw [seenTo_zero]; exact Sees.made w, fun j _ h => by omega, (Below.refl _ _).alloc (Nat.le_refl _) _⟩
  case round =>
    obtain ⟨k, hk, rfl, hse, hp, hbl⟩ := hrel
    have Hse := Lib.hid hse
    have Hp := Lib.hid hp
    have Hbl := Lib.hid hbl
    have hgs := hbl.size
    clear hse hp hbl
    by_cases hlt : k < l.length
    · obtain ⟨g, off, hA, hg, hcell⟩ := Hr.out.at hlt
      have r0 := (Hbl.out.cell (p := ⟨g, off + k * 3, none⟩) hg).trans (hcell 0 _ rfl)
      have r1 := (Hbl.out.cell (p := ⟨g, off + k * 3 + 1, none⟩) hg).trans (hcell 1 _ rfl)
      have r2 := (Hbl.out.cell (p := ⟨g, off + k * 3 + 2, none⟩) hg).trans (hcell 2 _ rfl)
      subst hA
      obtain ⟨x, hx⟩ : ∃ x, Hid (l[k] = x) := ⟨_, Lib.hid rfl⟩
      rw [hx.out] at r0 r1 r2
      have hgw : g < wr.heap.size := Nat.lt_of_lt_of_le hg hgs
      clear hcell
      by_cases c1 : inB x.row 0 800
      rotate_left
      · have e1 := B_f c1
        have C1 := Lib.hid c1
        clear c1
        go_wp2_with (first | (go_at_call 50; refine (within_any _ _ _ _).mono ?_; rintro e w' ⟨rfl, rfl⟩))
        go_ret
        exact ⟨ret_f (fun h => C1.out (by have := (h.2.2 k hlt).1; rw [hx.out] at this; exact this)), by repeat (first | exact Hbl.out | refine Below.alloc ?_ (by first | exact hgs | (simp; done) | (simp; omega)) _)⟩
      have e1 := B_t c1
      have C1 := Lib.hid c1
      clear c1
      by_cases c2 : inB x.place 1 n
      rotate_left
      · have e2 := B_f c2
        have C2 := Lib.hid c2
        clear c2
        go_wp2_with (first | (go_at_call 50; refine (within_any _ _ _ _).mono ?_; rintro e w' ⟨rfl, rfl⟩))
        go_ret
        exact ⟨ret_f (fun h => C2.out (by have := (h.2.2 k hlt).2.1; rw [hx.out] at this; exact this)), by repeat (first | exact Hbl.out | refine Below.alloc ?_ (by first | exact hgs | (simp; done) | (simp; omega)) _)⟩
      have e2 := B_t c2
      have C2 := Lib.hid c2
      clear c2
      by_cases c3 : inB x.at_ 0 1000000
      rotate_left
      · have e3 := B_f c3
        have C3 := Lib.hid c3
        clear c3
        go_wp2_with (first | (go_at_call 50; refine (within_any _ _ _ _).mono ?_; rintro e w' ⟨rfl, rfl⟩))
        go_ret
        exact ⟨ret_f (fun h => C3.out (by have := (h.2.2 k hlt).2.2.1; rw [hx.out] at this; exact this)), by repeat (first | exact Hbl.out | refine Below.alloc ?_ (by first | exact hgs | (simp; done) | (simp; omega)) _)⟩
      have e3 := B_t c3
      have C3 := Lib.hid c3
      clear c3
      have hir : Hid (inI64 x.row) := Lib.hid (by have := C1.out; unfold inB at this; unfold inI64; omega)
      have hip : Hid (inI64 x.place) := Lib.hid (by have := C2.out; unfold inB at this; unfold inI64; omega)
      have hse2 : Hid (Sees ((wr.alloc (.cells #[.int .i64 x.row, .int .i64 x.place, .int .i64 x.at_] 54)).alloc (.cells #[.int .i64 x.row, .int .i64 x.place] 77)) w.heap.size k (seenTo l k)) := Lib.hid ((Hse.out.later ((Below.refl _ _).alloc (Nat.le_refl _) _)).later ((Below.refl _ _).alloc (Nat.le_refl _) _))
      have hlook := hse2.out.look x.row x.place hir.out hip.out
      by_cases c4 : seenTo l k x.row x.place
      · rw [B_t c4] at hlook
        have C4 := Lib.hid c4
        clear c4
        go_wp2_with (first | (go_at_call 50; refine (within_any _ _ _ _).mono ?_; rintro e w' ⟨rfl, rfl⟩))
        go_ret
        exact ⟨ret_f (fun h => (h.2.2 k hlt).2.2.2 (by rw [hx.out]; exact C4.out)), by repeat (first | exact Hbl.out | refine Below.alloc ?_ (by first | exact hgs | (simp; done) | (simp; omega)) _)⟩
      · rw [B_f c4] at hlook
        have C4 := Lib.hid c4
        clear c4
        go_wp2_with (first | (go_at_call 50; refine (within_any _ _ _ _).mono ?_; rintro e w' ⟨rfl, rfl⟩) | (at_mapUpdate; refine wpList_see rfl _ _ _ rfl w.heap.size k (seenTo l k) x.row x.place hir.out hip.out rfl hse2.out (by omega) rfl rfl ?_; intro w9 hs9 hg9))
        have Hs9 := Lib.hid hs9
        have Hg9 := Lib.hid hg9
        clear hs9 hg9
        go_roundw
        case rel =>
          refine ⟨k + 1, by omega, by go_num, by rw [seenTo_succ l k hlt, hx.out]; exact Hs9.out, fun j hj h1 => ?_, ?_⟩
          · rcases Nat.lt_or_eq_of_le (Nat.le_of_lt_succ h1) with h' | rfl
            · exact Hp.out j hj h'
            · unfold blowAtP
              rw [hx.out]
              exact ⟨C1.out, C2.out, C3.out, C4.out⟩
          · exact ((Hbl.out.alloc hgs _).alloc (by simp; omega) _).grown Hg9.out (by simp; omega) (fun g hg => by injection hg with hg; omega)
        case measure => simp [intOf]; omega
    · obtain rfl : k = l.length := by omega
      go_wp2
      go_ret
      exact ⟨ret_t ⟨⟨hn1, hn2⟩, h4, fun i hi => Hp.out i hi hi⟩, Hbl.out⟩


set_option maxHeartbeats 3200000 in
theorem l23Good_any (n : Int) (l : List Blw) (A : Option Addr) (c : Nat) (w : World) (h : RdL w w.heap.size A 3 Blw.enc l) (hl : l.length ≤ 1048576) (hc : l.length ≤ c) :
    Calls Try.prog 25 #[.int .i64 n, .slice A l.length c] w fun e w' => e = .returned (.bool (B (blowsP n l))) ∧ Below w.heap.size w w' := by
  have Hr := Lib.hid h
  clear h
  go_enter Try.func25, Try.ntmps25
  go_wp2
  go_loopw [11] (fun i wr => ∃ k : Nat, k ≤ l.length ∧ i = .int .i64 k ∧ (∀ (j : Nat) (hj : j < l.length), j < k → blowAtP n l j hj) ∧ Below w.heap.size w wr) (fun i _ => l.length - (intOf i).toNat)
  case atStart => exact ⟨0, by omega, by rfl, fun j _ h => by omega, Below.refl _ _⟩
  case round =>
    obtain ⟨k, hk, rfl, hp, hbl⟩ := hrel
    have Hp := Lib.hid hp
    have Hbl := Lib.hid hbl
    have hgs := hbl.size
    clear hp hbl
    by_cases hlt : k < l.length
    · obtain ⟨g, off, hA, hg, hcell⟩ := Hr.out.at hlt
      have r0 := (Hbl.out.cell (p := ⟨g, off + k * 3, none⟩) hg).trans (hcell 0 _ rfl)
      have r1 := (Hbl.out.cell (p := ⟨g, off + k * 3 + 1, none⟩) hg).trans (hcell 1 _ rfl)
      have r2 := (Hbl.out.cell (p := ⟨g, off + k * 3 + 2, none⟩) hg).trans (hcell 2 _ rfl)
      subst hA
      obtain ⟨x, hx⟩ : ∃ x, Hid (l[k] = x) := ⟨_, Lib.hid rfl⟩
      rw [hx.out] at r0 r1 r2
      have hgw : g < wr.heap.size := Nat.lt_of_lt_of_le hg hgs
      clear hcell
      by_cases c1 : inB x.row 0 800
      rotate_left
      · have e1 := B_f c1
        have C1 := Lib.hid c1
        clear c1
        go_wp2_with (first | (go_at_call 37; refine (l1In_any _ _ _ _).mono ?_; rintro e w' ⟨rfl, rfl⟩))
        go_ret
        exact ⟨ret_f (fun h => C1.out (by have := (h.2.2 k hlt).1; rw [hx.out] at this; exact this)), by repeat (first | exact Hbl.out | refine Below.alloc ?_ (by first | exact hgs | (simp; done) | (simp; omega)) _)⟩
      have e1 := B_t c1
      have C1 := Lib.hid c1
      clear c1
      by_cases c2 : inB x.place 1 n
      rotate_left
      · have e2 := B_f c2
        have C2 := Lib.hid c2
        clear c2
        go_wp2_with (first | (go_at_call 37; refine (l1In_any _ _ _ _).mono ?_; rintro e w' ⟨rfl, rfl⟩))
        go_ret
        exact ⟨ret_f (fun h => C2.out (by have := (h.2.2 k hlt).2.1; rw [hx.out] at this; exact this)), by repeat (first | exact Hbl.out | refine Below.alloc ?_ (by first | exact hgs | (simp; done) | (simp; omega)) _)⟩
      have e2 := B_t c2
      have C2 := Lib.hid c2
      clear c2
      by_cases c3 : inB x.at_ 0 1000000
      rotate_left
      · have e3 := B_f c3
        have C3 := Lib.hid c3
        clear c3
        go_wp2_with (first | (go_at_call 37; refine (l1In_any _ _ _ _).mono ?_; rintro e w' ⟨rfl, rfl⟩))
        go_ret
        exact ⟨ret_f (fun h => C3.out (by have := (h.2.2 k hlt).2.2.1; rw [hx.out] at this; exact this)), by repeat (first | exact Hbl.out | refine Below.alloc ?_ (by first | exact hgs | (simp; done) | (simp; omega)) _)⟩
      have e3 := B_t c3
      have C3 := Lib.hid c3
      clear c3
      have hb0 : Hid (Below w.heap.size w (wr.alloc (.cells #[.int .i64 x.row, .int .i64 x.place, .int .i64 x.at_] 54))) := Lib.hid (Hbl.out.alloc hgs _)
      have a0 : Hid ((wr.alloc (.cells #[.int .i64 x.row, .int .i64 x.place, .int .i64 x.at_] 54)).cell? ⟨wr.heap.size, 0, none⟩ = some (.int .i64 x.row)) := Lib.hid (by simp [go_sem])
      have a1 : Hid ((wr.alloc (.cells #[.int .i64 x.row, .int .i64 x.place, .int .i64 x.at_] 54)).cell? ⟨wr.heap.size, 1, none⟩ = some (.int .i64 x.place)) := Lib.hid (by simp [go_sem])
      have hs0 : wr.heap.size < (wr.alloc (.cells #[.int .i64 x.row, .int .i64 x.place, .int .i64 x.at_] 54)).heap.size := by simp
      go_wp2_with (first | (go_at_call 37; refine (l1In_any _ _ _ _).mono ?_; rintro e w' ⟨rfl, rfl⟩))
      generalize (wr.alloc (.cells #[.int .i64 x.row, .int .i64 x.place, .int .i64 x.at_] 54)) = W at hb0 a0 a1 hs0 ⊢
      obtain ⟨gx, hgx⟩ : ∃ gx, Hid (wr.heap.size = gx) := ⟨_, Lib.hid rfl⟩
      rw [hgx.out] at a0 a1 hs0 ⊢
      go_loopw [37] (fun i wr2 => ∃ j : Nat, j ≤ k ∧ i = .int .i64 j ∧ (∀ (j' : Nat) (hj : j' < l.length), j' < j → ¬ (l[j'].row = x.row ∧ l[j'].place = x.place)) ∧ Below W.heap.size W wr2) (fun i _ => k - (intOf i).toNat)
      case atStart => exact ⟨0, by omega, by rfl, fun j _ h => by omega, Below.refl _ _⟩
      case round =>
        obtain ⟨j, hj, rfl, hq, hb2⟩ := hrel
        have Hq := Lib.hid hq
        have Hb2 := Lib.hid hb2
        have hg2 := hb2.size
        have hy2 : Hid (Below w.heap.size w wr) := Lib.hid (hb0.out.trans (Hb2.out.mono hb0.out.size))
        clear hq hb2
        by_cases hlj : j < k
        · obtain ⟨g', off', hA', hg', hcell'⟩ := Hr.out.at (k := j) (by omega)
          simp only [Option.some.injEq, Addr.mk.injEq, and_true] at hA'
          obtain ⟨rfl, rfl⟩ := hA'
          have q0 := (hy2.out.cell (p := ⟨g, off + j * 3, none⟩) hg).trans (hcell' 0 _ rfl)
          have q1 := (hy2.out.cell (p := ⟨g, off + j * 3 + 1, none⟩) hg).trans (hcell' 1 _ rfl)
          have q2 := (hy2.out.cell (p := ⟨g, off + j * 3 + 2, none⟩) hg).trans (hcell' 2 _ rfl)
          have b0 := (Hb2.out.cell (p := ⟨gx, 0, none⟩) hs0).trans a0.out
          have b1 := (Hb2.out.cell (p := ⟨gx, 1, none⟩) hs0).trans a1.out
          have hgw2 : g < wr.heap.size := Nat.lt_of_lt_of_le hg hy2.out.size
          have hxw2 : gx < wr.heap.size := Nat.lt_of_lt_of_le hs0 hg2
          obtain ⟨z, hz⟩ : ∃ z, Hid (l[j]'(by omega) = z) := ⟨_, Lib.hid rfl⟩
          rw [hz.out] at q0 q1 q2
          clear hcell'
          by_cases d1 : x.row = z.row
          · by_cases d2 : x.place = z.place
            · have f1 : (x.row == z.row) = true := by simpa using d1
              have f2 : (x.place == z.place) = true := by simpa using d2
              have D := Lib.hid (And.intro d1 d2)
              clear d1 d2
              go_wp2
              go_ret
              exact ⟨ret_f (fun h => (h.2.2 k hlt).2.2.2 ⟨j, by omega, hlj, by rw [hz.out, hx.out]; exact D.out.1.symm, by rw [hz.out, hx.out]; exact D.out.2.symm⟩), by repeat (first | exact hy2.out | refine Below.alloc ?_ (by first | exact hy2.out.size | (simp; done) | (simp; omega)) _)⟩
            · have f1 : (x.row == z.row) = true := by simpa using d1
              have f2 : (x.place == z.place) = false := by simpa using d2
              have D := Lib.hid d2
              clear d1 d2
              go_wp2
              go_roundw
              case rel =>
                refine ⟨j + 1, by omega, by go_num, fun j' hj1 h1 => ?_, Hb2.out.alloc hg2 _⟩
                rcases Nat.lt_or_eq_of_le (Nat.le_of_lt_succ h1) with h' | rfl
                · exact Hq.out j' hj1 h'
                · rw [hz.out]; exact fun h => D.out h.2.symm
              case measure => simp [intOf]; omega
          · have f1 : (x.row == z.row) = false := by simpa using d1
            have D := Lib.hid d1
            clear d1
            go_wp2
            go_roundw
            case rel =>
              refine ⟨j + 1, by omega, by go_num, fun j' hj1 h1 => ?_, Hb2.out.alloc hg2 _⟩
              rcases Nat.lt_or_eq_of_le (Nat.le_of_lt_succ h1) with h' | rfl
              · exact Hq.out j' hj1 h'
              · rw [hz.out]; exact fun h => D.out h.1.symm
            case measure => simp [intOf]; omega
        · obtain rfl : j = k := by omega
          go_wp2
          go_roundw
          case rel =>
            refine ⟨j + 1, by omega, by go_num, fun j' hj1 h1 => ?_, hy2.out⟩
            rcases Nat.lt_or_eq_of_le (Nat.le_of_lt_succ h1) with h' | rfl
            · exact Hp.out j' hj1 h'
            · unfold blowAtP
              rw [hx.out]
              exact ⟨C1.out, C2.out, C3.out, fun ⟨j2, h2, h3, h4, h5⟩ => Hq.out j2 h2 h3 ⟨h4, h5⟩⟩
          case measure => simp [intOf]; omega
    · obtain rfl : k = l.length := by omega
      by_cases c5 : inB n 3 8
      · have e5 := B_t c5
        have C5 := Lib.hid c5
        clear c5
        by_cases h4 : l.length ≤ 400
        · go_wp2_with (first | (go_at_call 37; refine (l1In_any _ _ _ _).mono ?_; rintro e w' ⟨rfl, rfl⟩))
          go_ret
          exact ⟨by rw [B_t (show blowsP n l from ⟨C5.out, h4, fun i hi => Hp.out i hi hi⟩)]; simp; omega, Hbl.out⟩
        · go_wp2_with (first | (go_at_call 37; refine (l1In_any _ _ _ _).mono ?_; rintro e w' ⟨rfl, rfl⟩))
          go_ret
          exact ⟨by rw [B_f (show ¬ blowsP n l from fun x => h4 x.2.1)]; simp; omega, Hbl.out⟩
      · have e5 := B_f c5
        have C5 := Lib.hid c5
        clear c5
        go_wp2_with (first | (go_at_call 37; refine (l1In_any _ _ _ _).mono ?_; rintro e w' ⟨rfl, rfl⟩))
        go_ret
        exact ⟨ret_f (fun h => C5.out h.1), Hbl.out⟩
end Go.Proofs.Ytglnehinmdmgmaa
