import Derived.Test.YtbfhfnejppfehaaDoorMGainL10
import Derived.Test.YtbfhfnejppfehaaDoorMGainL05
/-
  Contracts: valid people (both sides).
-/
namespace Go.Proofs.YtbfhfnejppfehaaDoor
open Go.RowKit
set_option linter.unusedVariables false
set_option linter.unusedSimpArgs false
set_option maxRecDepth 100000

def nmAt (l : List Pk) (i : Nat) : ByteArray := (l.getD i (⟨#[]⟩, [])).1
def skAt (l : List Pk) (i : Nat) : List Int := (l.getD i (⟨#[]⟩, [])).2
def okAt (l : List Pk) (n : Int) (i : Nat) : Prop := isWordP (nmAt l i) ∧ ((skAt l i).length : Int) = n ∧ allIn (skAt l i) 0 9 ∧ ∀ j, j < i → nmAt l j ≠ nmAt l i
def peopleP (l : List Pk) (n : Int) : Prop := (3 ≤ n ∧ n ≤ 7) ∧ (n ≤ l.length ∧ (l.length : Int) ≤ 7) ∧ ∀ i, i < l.length → okAt l n i
theorem nmAt_key {D : List Psn} {i : Nat} (h : i < D.length) : nmAt (D.map Psn.key) i = D[i].name := by simp [nmAt, h, Psn.key]
theorem skAt_key {D : List Psn} {i : Nat} (h : i < D.length) : skAt (D.map Psn.key) i = D[i].x := by simp [skAt, h, Psn.key]
/-- A name among the first m people. -/
def namedUpTo (D : List Psn) (m : Nat) (s : ByteArray) : Prop := ∃ (j : Nat) (h : j < D.length), j < m ∧ D[j].name = s

set_option maxHeartbeats 3200000 in
theorem sPeople_any (l : List Pk) (A : Option Addr) (c : Nat) (n : Int) (w : World) (h : RdP w w.heap.size A l) (hl : l.length ≤ 1048576) (hc : l.length ≤ c) (hs : ∀ x ∈ l, Person_small 1048576 x) :
    Calls Tryd.prog 62 #[.slice A l.length c, .int .i64 n] w fun e w' => e = .returned (.bool (B (peopleP l n))) ∧ Below w.heap.size w w' := by
  obtain ⟨D, rfl, hr, hi⟩ := h
  have hpl : Hid (∀ {n}, peopleP (D.map Psn.key) n ↔ (3 ≤ n ∧ n ≤ 7) ∧ (n ≤ D.length ∧ (D.length : Int) ≤ 7) ∧ ∀ i, i < D.length → okAt (D.map Psn.key) n i) := Lib.hid (by simp [peopleP])
  rw [List.length_map] at hl hc ⊢
  have Hr := Lib.hid hr
  have Hi := Lib.hid hi
  have Hs := Lib.hid hs
  clear hr hi hs
  by_cases hn : inB n 3 7
  · have e1 := B_t hn
    by_cases hm : inB (D.length : Int) n 7
    · have e2 := B_t hm
      have Hn := Lib.hid hn
      have Hm := Lib.hid hm
      obtain ⟨hn1, hn2⟩ := hn
      obtain ⟨hm1, hm2⟩ := hm
      go_enter Tryd.func62, Tryd.ntmps62
      go_wp2_with (go_at_call 48; refine (l1In_any _ _ _ _).mono ?_; rintro e w' ⟨rfl, rfl⟩)
      go_loopw [21] (fun i wr => ∃ k : Nat, k ≤ D.length ∧ i = .int .i64 k ∧ (∀ j, j < k → okAt (D.map Psn.key) n j) ∧ Below w.heap.size w wr) (fun i _ => D.length - (intOf i).toNat)
      case atStart => exact ⟨0, by omega, by rfl, fun j h => by omega, Below.refl _ _⟩
      case round =>
        obtain ⟨k, hk, rfl, hp, hbl⟩ := hrel
        have Hp := Lib.hid hp
        have Hbl := Lib.hid hbl
        have hgs := hbl.size
        clear hp hbl
        by_cases hlt : k < D.length
        · obtain ⟨g, off, hA, hg, hcell⟩ := Hr.out.at (k := k) (by omega)
          subst hA
          have r0 := (Hbl.out.cell (p := ⟨g, off + k * 2, none⟩) hg).trans (hcell 0 _ rfl)
          have r1 := (Hbl.out.cell (p := ⟨g, off + k * 2 + 1, none⟩) hg).trans (hcell 1 _ rfl)
          have hrk := Hi.out _ (List.getElem_mem (n := k) (by omega))
          obtain ⟨x, hx⟩ : ∃ x, Hid (D[k]'(by omega) = x) := ⟨_, Lib.hid rfl⟩
          rw [hx.out] at r0 r1 hrk
          have Hrk := Lib.hid hrk
          clear hcell hrk
          have hok : Hid (okAt (D.map Psn.key) n k ↔ isWordP x.name ∧ (x.x.length : Int) = n ∧ allIn x.x 0 9 ∧ ∀ j, j < k → nmAt (D.map Psn.key) j ≠ x.name) := Lib.hid (by unfold okAt; rw [nmAt_key hlt, skAt_key hlt, hx.out])
          have hsm : (x.name.size : Int) ≤ 1048576 ∧ (x.x.length : Int) ≤ 1048576 := by have := Hs.out _ (List.mem_map.2 ⟨_, List.getElem_mem hlt, rfl⟩); rw [hx.out] at this; exact this
          obtain ⟨hsm1, hsm2⟩ := hsm
          have hb2 : Hid (Below w.heap.size w (wr.alloc (.cells #[.string x.name, .slice x.A x.x.length x.c] 84))) := Lib.hid (Hbl.out.alloc hgs _)
          have Hrk2 : Hid (RdL (wr.alloc (.cells #[.string x.name, .slice x.A x.x.length x.c] 84)) (wr.alloc (.cells #[.string x.name, .slice x.A x.x.length x.c] 84)).heap.size x.A 1 encInt x.x) := Lib.hid ((Hrk.out.below hb2.out (Nat.le_refl _)).more hb2.out.size)
          by_cases c1 : isWordP x.name
          · have f1 := B_t c1
            by_cases c2 : (x.x.length : Int) = n
            · by_cases c3 : allIn x.x 0 9
              · have f3 := B_t c3
                have C1 := Lib.hid c1
                have C3 := Lib.hid c3
                clear c1 c3
                subst c2
                go_wp2_with (first | (go_at_call 66; refine (l4Name_any _ _ (by omega)).mono ?_; rintro e w' ⟨rfl, rfl⟩) | (go_at_call 97; refine (l1All_any _ _ _ _ _ _ Hrk2.out (by omega)).mono ?_; rintro e w' ⟨rfl, rfl⟩))
                have p0 : (wr.alloc (.cells #[.string x.name, .slice x.A x.x.length x.c] 84)).cell? ⟨wr.heap.size, 0, none⟩ = some (.string x.name) := by simp [go_sem]
                have hgx : wr.heap.size < (wr.alloc (.cells #[.string x.name, .slice x.A x.x.length x.c] 84)).heap.size := by simp
                have P0 := Lib.hid p0
                clear p0 r0 r1
                generalize wr.alloc (.cells #[.string x.name, .slice x.A x.x.length x.c] 84) = W1 at *
                generalize wr.heap.size = gx at *
                clear Hbl wr
                go_loopw [47] (fun i wi => ∃ m : Nat, m ≤ k ∧ i = .int .i64 m ∧ (∀ j, j < m → nmAt (D.map Psn.key) j ≠ x.name) ∧ Below W1.heap.size W1 wi) (fun i _ => k - (intOf i).toNat)
                case atStart => exact ⟨0, by omega, by rfl, fun j h => by omega, Below.refl _ _⟩
                case round =>
                  obtain ⟨m, hm, rfl, hq, hbi⟩ := hrel
                  have Hq := Lib.hid hq
                  have Hbi := Lib.hid hbi
                  have hgi := hbi.size
                  clear hq hbi
                  by_cases hlm : m < k
                  · have p0 : wr.cell? ⟨gx, 0, none⟩ = some (.string x.name) := (Hbi.out.cell (p := ⟨gx, 0, none⟩) hgx).trans P0.out
                    have hgx2 : gx < wr.heap.size := by omega
                    obtain ⟨g', off', hA', hg', hcell'⟩ := Hr.out.at (k := m) (by omega)
                    simp only [Option.some.injEq, Addr.mk.injEq, and_true] at hA'
                    obtain ⟨rfl, rfl⟩ := hA'
                    have hbw : Hid (Below w.heap.size w wr) := Lib.hid (hb2.out.trans (Hbi.out.mono hb2.out.size))
                    have q0 := (hbw.out.cell (p := ⟨g, off + m * 2, none⟩) hg).trans (hcell' 0 _ rfl)
                    have q1 := (hbw.out.cell (p := ⟨g, off + m * 2 + 1, none⟩) hg).trans (hcell' 1 _ rfl)
                    clear hcell'
                    have hy0 := Lib.hid (nmAt_key (D := D) (i := m) (by omega))
                    obtain ⟨y, hy⟩ : ∃ y, Hid (D[m]'(by omega) = y) := ⟨_, Lib.hid rfl⟩
                    rw [hy.out] at q0 q1
                    have Hy0 : Hid (nmAt (D.map Psn.key) m = y.name) := Lib.hid (by rw [hy0.out, hy.out])
                    clear hy0
                    by_cases exy : x.name = y.name
                    · have e5 := eqB_t exy
                      have Exy := Lib.hid exy
                      clear exy
                      go_wp2
                      go_ret
                      exact ⟨ret_f (fun h => ((hok.out.1 ((hpl.out.1 h).2.2 k hlt)).2.2.2 m hlm) (by rw [Hy0.out, Exy.out])), (hbw.out.alloc (by omega) _)⟩
                    · have e5 := eqB_f exy
                      have Exy := Lib.hid exy
                      clear exy
                      go_wp2
                      go_roundw
                      case rel =>
                        refine ⟨m + 1, by omega, by go_num, fun j hj => ?_, Hbi.out.alloc hgi _⟩
                        rcases Nat.lt_or_eq_of_le (Nat.le_of_lt_succ hj) with h' | rfl
                        · exact Hq.out j h'
                        · rw [Hy0.out]; exact fun e => Exy.out e.symm
                      case measure => simp [intOf]; omega
                  · obtain rfl : m = k := by omega
                    go_wp2
                    go_roundw
                    case rel =>
                      refine ⟨m + 1, by omega, by go_num, fun j hj => ?_, hb2.out.trans (Hbi.out.mono hb2.out.size)⟩
                      rcases Nat.lt_or_eq_of_le (Nat.le_of_lt_succ hj) with h' | rfl
                      · exact Hp.out j h'
                      · exact hok.out.2 ⟨C1.out, by first | trivial | rfl, C3.out, Hq.out⟩
                    case measure => simp [intOf]; omega
              · have f3 := B_f c3
                have C3 := Lib.hid c3
                clear c3
                go_wp2_with (first | (go_at_call 66; refine (l4Name_any _ _ (by omega)).mono ?_; rintro e w' ⟨rfl, rfl⟩) | (go_at_call 97; refine (l1All_any _ _ _ _ _ _ Hrk2.out (by omega)).mono ?_; rintro e w' ⟨rfl, rfl⟩))
                go_ret
                exact ⟨ret_f (fun h => C3.out (hok.out.1 ((hpl.out.1 h).2.2 k hlt)).2.2.1), hb2.out⟩
            · have C2 := Lib.hid c2
              go_wp2_with (first | (go_at_call 66; refine (l4Name_any _ _ (by omega)).mono ?_; rintro e w' ⟨rfl, rfl⟩) | (go_at_call 97; refine (l1All_any _ _ _ _ _ _ Hrk2.out (by omega)).mono ?_; rintro e w' ⟨rfl, rfl⟩))
              go_ret
              exact ⟨ret_f (fun h => C2.out (hok.out.1 ((hpl.out.1 h).2.2 k hlt)).2.1), hb2.out⟩
          · have f1 := B_f c1
            have C1 := Lib.hid c1
            clear c1
            go_wp2_with (first | (go_at_call 66; refine (l4Name_any _ _ (by omega)).mono ?_; rintro e w' ⟨rfl, rfl⟩) | (go_at_call 97; refine (l1All_any _ _ _ _ _ _ Hrk2.out (by omega)).mono ?_; rintro e w' ⟨rfl, rfl⟩))
            go_ret
            exact ⟨ret_f (fun h => C1.out (hok.out.1 ((hpl.out.1 h).2.2 k hlt)).1), hb2.out⟩
        · obtain rfl : k = D.length := by omega
          go_wp2
          go_ret
          exact ⟨ret_t (hpl.out.2 ⟨Hn.out, Hm.out, Hp.out⟩), Hbl.out⟩
    · have e2 := B_f hm
      have Hm := Lib.hid hm
      clear hm
      go_enter Tryd.func62, Tryd.ntmps62
      go_wp2_with (go_at_call 48; refine (l1In_any _ _ _ _).mono ?_; rintro e w' ⟨rfl, rfl⟩)
      go_ret
      exact ⟨ret_f (fun h => Hm.out (hpl.out.1 h).2.1), Below.refl _ _⟩
  · have e1 := B_f hn
    have Hn := Lib.hid hn
    clear hn
    go_enter Tryd.func62, Tryd.ntmps62
    go_wp2_with (go_at_call 48; refine (l1In_any _ _ _ _).mono ?_; rintro e w' ⟨rfl, rfl⟩)
    go_ret
    exact ⟨ret_f (fun h => Hn.out (hpl.out.1 h).1), Below.refl _ _⟩
theorem namedFn_any (y : Psn) (gx : Nat) (s : ByteArray) (w : World) (hp : w.cell? ⟨gx, 0, none⟩ = some (.string s)) (hgx : gx < w.heap.size) :
    Calls Tryd.prog 95 #[.agg #[.string y.name, .slice y.A y.x.length y.c], .pointer (some ⟨gx, 0, none⟩)] w fun e w' => e = .returned (.bool (B (y.name = s))) ∧ Below w.heap.size w w' := by
  by_cases e : y.name = s
  · have e5 := eqB_t e
    have E := Lib.hid e
    clear e
    go_enter Tryd.func95, Tryd.ntmps95
    go_wp2
    go_ret
    exact ⟨ret_t E.out, (Below.refl _ _).alloc (Nat.le_refl _) _⟩
  · have e5 := eqB_f e
    have E := Lib.hid e
    clear e
    go_enter Tryd.func95, Tryd.ntmps95
    go_wp2
    go_ret
    exact ⟨ret_f E.out, (Below.refl _ _).alloc (Nat.le_refl _) _⟩
set_option maxHeartbeats 1600000 in
theorem namedIndex_any (D : List Psn) (m : Nat) (hm : m ≤ D.length) (A : Option Addr) (c : Nat) (gx : Nat) (s : ByteArray) (w : World) (hr : RdL w w.heap.size A 2 Psn.enc D) (hl : D.length ≤ 1048576) (hp : w.cell? ⟨gx, 0, none⟩ = some (.string s)) (hgx : gx < w.heap.size) :
    Calls Tryd.prog 60 #[.slice A m c, .func (.func 95) #[] #[.pointer (some ⟨gx, 0, none⟩)]] w fun e w' => (∃ r : Int, e = .returned (.int .i64 r) ∧ (0 ≤ r ↔ namedUpTo D m s)) ∧ Below w.heap.size w w' := by
  have Hr := Lib.hid hr
  have P0 := Lib.hid hp
  clear hr hp
  go_enter Tryd.func60, Tryd.ntmps60
  go_wp2
  go_loopw [8] (fun i wr => ∃ k : Nat, k ≤ m ∧ i = .int .i64 k ∧ (∀ (j : Nat) (hj : j < D.length), j < k → D[j].name ≠ s) ∧ Below w.heap.size w wr) (fun i _ => m - (intOf i).toNat)
  case atStart => exact ⟨0, by omega, by rfl, fun j _ h => by omega, Below.refl _ _⟩
  case round =>
    obtain ⟨k, hk, rfl, hq, hbl⟩ := hrel
    have Hq := Lib.hid hq
    have Hbl := Lib.hid hbl
    have hgs := hbl.size
    clear hq hbl
    by_cases hlt : k < m
    · obtain ⟨g, off, hA, hg, hcell⟩ := Hr.out.at (k := k) (by omega)
      subst hA
      have r0 := (Hbl.out.cell (p := ⟨g, off + k * 2, none⟩) hg).trans (hcell 0 _ rfl)
      have r1 := (Hbl.out.cell (p := ⟨g, off + k * 2 + 1, none⟩) hg).trans (hcell 1 _ rfl)
      have p0 : Hid (wr.cell? ⟨gx, 0, none⟩ = some (.string s)) := Lib.hid ((Hbl.out.cell (p := ⟨gx, 0, none⟩) hgx).trans P0.out)
      obtain ⟨x, hx⟩ : ∃ x, Hid (D[k]'(by omega) = x) := ⟨_, Lib.hid rfl⟩
      rw [hx.out] at r0 r1
      clear hcell
      by_cases e : x.name = s
      · have e5 := B_t e
        have E := Lib.hid e
        clear e
        go_wp2_with (go_at_call 95; refine (namedFn_any x gx s _ p0.out (by omega)).mono ?_; rintro e w' ⟨rfl, hb2⟩)
        go_ret
        exact ⟨⟨_, rfl, ⟨fun _ => ⟨k, by omega, hlt, by rw [hx.out]; exact E.out⟩, fun _ => by omega⟩⟩, Hbl.out.trans (hb2.mono hgs)⟩
      · have e5 := B_f e
        have E := Lib.hid e
        clear e
        go_wp2_with (go_at_call 95; refine (namedFn_any x gx s _ p0.out (by omega)).mono ?_; rintro e w' ⟨rfl, hb2⟩)
        go_roundw
        case rel =>
          refine ⟨k + 1, by omega, by go_num, fun j hj h1 => ?_, Hbl.out.trans (hb2.mono hgs)⟩
          rcases Nat.lt_or_eq_of_le (Nat.le_of_lt_succ h1) with h' | rfl
          · exact Hq.out j hj h'
          · rw [hx.out]; exact E.out
        case measure => simp [intOf]; omega
    · obtain rfl : k = m := by omega
      go_wp2
      go_ret
      exact ⟨⟨_, rfl, ⟨fun h => absurd h (by omega), fun ⟨j, h1, h2, h3⟩ => absurd h3 (Hq.out j h1 h2)⟩⟩, Hbl.out⟩
theorem namedContains_any (D : List Psn) (m : Nat) (hm : m ≤ D.length) (A : Option Addr) (c : Nat) (gx : Nat) (s : ByteArray) (w : World) (hr : RdL w w.heap.size A 2 Psn.enc D) (hl : D.length ≤ 1048576) (hp : w.cell? ⟨gx, 0, none⟩ = some (.string s)) (hgx : gx < w.heap.size) :
    Calls Tryd.prog 94 #[.slice A m c, .func (.func 95) #[] #[.pointer (some ⟨gx, 0, none⟩)]] w fun e w' => e = .returned (.bool (B (namedUpTo D m s))) ∧ Below w.heap.size w w' := by
  have Hr := Lib.hid hr
  have P0 := Lib.hid hp
  clear hr hp
  go_enter Tryd.func94, Tryd.ntmps94
  go_wp2_with (go_at_call 60; refine (namedIndex_any D m hm A c gx s _ Hr.out hl P0.out hgx).mono ?_; rintro e w' ⟨⟨r, rfl, hr⟩, hb⟩; have HR := Lib.hid hr; clear hr)
  all_goals go_ret
  by_cases hq : namedUpTo D m s
  · exact ⟨by have := HR.out.2 hq; rw [B_t hq]; first | (simp; done) | (simp; omega), hb⟩
  · exact ⟨by have : ¬ 0 ≤ r := fun h => hq (HR.out.1 h); rw [B_f hq]; first | (simp; done) | (simp; omega), hb⟩

set_option maxHeartbeats 3200000 in
theorem iPeople_any (l : List Pk) (A : Option Addr) (c : Nat) (n : Int) (w : World) (h : RdP w w.heap.size A l) (hl : l.length ≤ 1048576) (hc : l.length ≤ c) (hs : ∀ x ∈ l, Person_small 1048576 x) :
    Calls Tryd.prog 58 #[.slice A l.length c, .int .i64 n] w fun e w' => e = .returned (.bool (B (peopleP l n))) ∧ Below w.heap.size w w' := by
  obtain ⟨D, rfl, hr, hi⟩ := h
  have hpl : Hid (∀ {n}, peopleP (D.map Psn.key) n ↔ (3 ≤ n ∧ n ≤ 7) ∧ (n ≤ D.length ∧ (D.length : Int) ≤ 7) ∧ ∀ i, i < D.length → okAt (D.map Psn.key) n i) := Lib.hid (by simp [peopleP])
  rw [List.length_map] at hl hc ⊢
  have Hr := Lib.hid hr
  have Hi := Lib.hid hi
  have Hs := Lib.hid hs
  clear hr hi hs
  by_cases hn : 3 ≤ n ∧ n ≤ 7
  · by_cases hm : inB (D.length : Int) n 7
    · have e2 := B_t hm
      have Hn := Lib.hid hn
      have Hm := Lib.hid hm
      obtain ⟨hn1, hn2⟩ := hn
      obtain ⟨hm1, hm2⟩ := hm
      go_enter Tryd.func58, Tryd.ntmps58
      go_wp2_with (first | (go_at_call 85; refine (within_any _ _ _ _).mono ?_; rintro e w' ⟨rfl, rfl⟩) | (go_at_call 92; refine (isStage_t n _ hn1 (by omega)).mono ?_; rintro e w' ⟨rfl, rfl⟩))
      go_loopw [25] (fun i wr => ∃ k : Nat, k ≤ D.length ∧ i = .int .i64 k ∧ (∀ j, j < k → okAt (D.map Psn.key) n j) ∧ Below w.heap.size w wr) (fun i _ => D.length - (intOf i).toNat)
      case atStart => exact ⟨0, by omega, by rfl, fun j h => by omega, Below.refl _ _⟩
      case round =>
        obtain ⟨k, hk, rfl, hp, hbl⟩ := hrel
        have Hp := Lib.hid hp
        have Hbl := Lib.hid hbl
        have hgs := hbl.size
        clear hp hbl
        by_cases hlt : k < D.length
        · obtain ⟨g, off, hA, hg, hcell⟩ := Hr.out.at (k := k) (by omega)
          subst hA
          have r0 := (Hbl.out.cell (p := ⟨g, off + k * 2, none⟩) hg).trans (hcell 0 _ rfl)
          have r1 := (Hbl.out.cell (p := ⟨g, off + k * 2 + 1, none⟩) hg).trans (hcell 1 _ rfl)
          have hrk := Hi.out _ (List.getElem_mem (n := k) (by omega))
          obtain ⟨x, hx⟩ : ∃ x, Hid (D[k]'(by omega) = x) := ⟨_, Lib.hid rfl⟩
          rw [hx.out] at r0 r1 hrk
          have Hrk := Lib.hid hrk
          clear hcell hrk
          have hok : Hid (okAt (D.map Psn.key) n k ↔ isWordP x.name ∧ (x.x.length : Int) = n ∧ allIn x.x 0 9 ∧ ¬ namedUpTo D k x.name) := Lib.hid (by
            unfold okAt; rw [nmAt_key hlt, skAt_key hlt, hx.out]
            have e : (∀ j, j < k → nmAt (D.map Psn.key) j ≠ x.name) ↔ ¬ namedUpTo D k x.name := by
              constructor
              · rintro h ⟨j, h1, h2, h3⟩; exact h j h2 (by rw [nmAt_key h1]; exact h3)
              · intro h j hj he; exact h ⟨j, by omega, hj, by rw [← nmAt_key (by omega)]; exact he⟩
            rw [e])
          have hsm : (x.name.size : Int) ≤ 1048576 ∧ (x.x.length : Int) ≤ 1048576 := by have := Hs.out _ (List.mem_map.2 ⟨_, List.getElem_mem hlt, rfl⟩); rw [hx.out] at this; exact this
          obtain ⟨hsm1, hsm2⟩ := hsm
          have hb2 : Hid (Below w.heap.size w (wr.alloc (.cells #[.string x.name, .slice x.A x.x.length x.c] 84))) := Lib.hid (Hbl.out.alloc hgs _)
          by_cases c1 : isWordP x.name
          · have f1 := B_t c1
            by_cases c2 : (x.x.length : Int) = n
            · by_cases c4 : namedUpTo D k x.name
              · have f4 := B_t c4
                have C4 := Lib.hid c4
                clear c4
                go_wp2_with (first | (go_at_call 93; refine (isWord_any _ _ (by omega)).mono ?_; rintro e w' ⟨rfl, rfl⟩) | (go_at_call 94; refine (namedContains_any D k (by omega) _ _ _ x.name _ ((Hr.out.below hb2.out (Nat.le_refl _)).more hb2.out.size) hl (by simp [go_sem]) (by simp)).mono ?_; rintro e w3 ⟨rfl, hb3⟩; have q1 : w3.cell? ⟨wr.heap.size, 1, none⟩ = some (.slice x.A x.x.length x.c) := (hb3.cell (p := ⟨wr.heap.size, 1, none⟩) (by simp)).trans (by simp [go_sem])))
                go_ret
                exact ⟨ret_f (fun h => (hok.out.1 ((hpl.out.1 h).2.2 k hlt)).2.2.2 C4.out), hb2.out.trans (hb3.mono hb2.out.size)⟩
              · have f4 := B_f c4
                have C1 := Lib.hid c1
                have C4 := Lib.hid c4
                clear c1 c4
                subst c2
                go_wp2_with (first | (go_at_call 93; refine (isWord_any _ _ (by omega)).mono ?_; rintro e w' ⟨rfl, rfl⟩) | (go_at_call 94; refine (namedContains_any D k (by omega) _ _ _ x.name _ ((Hr.out.below hb2.out (Nat.le_refl _)).more hb2.out.size) hl (by simp [go_sem]) (by simp)).mono ?_; rintro e w3 ⟨rfl, hb3⟩; have q1 : w3.cell? ⟨wr.heap.size, 1, none⟩ = some (.slice x.A x.x.length x.c) := (hb3.cell (p := ⟨wr.heap.size, 1, none⟩) (by simp)).trans (by simp [go_sem])))
                have hb4 : Hid (Below w.heap.size w w3) := Lib.hid (hb2.out.trans (hb3.mono hb2.out.size))
                have Hx3 : Hid (RdL w3 w3.heap.size x.A 1 encInt x.x) := Lib.hid ((Hrk.out.below hb4.out (Nat.le_refl _)).more hb4.out.size)
                clear hb3
                go_loop [51] (fun i => ∃ m : Nat, m ≤ x.x.length ∧ i = .int .i64 m ∧ ∀ (j : Nat) (hj : j < x.x.length), j < m → inB x.x[j] 0 9) (fun i => x.x.length - (intOf i).toNat)
                case atStart => exact ⟨0, by omega, by rfl, fun j _ h => by omega⟩
                case round =>
                  obtain ⟨m, hm, rfl, hq⟩ := hrel
                  have Hq := Lib.hid hq
                  clear hq
                  by_cases hlm : m < x.x.length
                  · obtain ⟨g', off', hA', hg', hcell'⟩ := Hx3.out.at hlm
                    have s0 : w3.cell? ⟨g', off' + m, none⟩ = some (.int .i64 x.x[m]) := by have := hcell' 0 _ rfl; rw [Nat.mul_one] at this; exact this
                    have HA := Lib.hid hA'
                    rw [hA'] at q1 ⊢
                    clear hcell' hA'
                    generalize hsv : x.x[m] = sv at s0
                    have Hsv := Lib.hid hsv
                    clear hsv
                    by_cases hin : inB sv 0 9
                    · have e5 := B_t hin
                      have Hin := Lib.hid hin
                      clear hin
                      go_wp2_with (go_at_call 85; refine (within_any _ _ _ _).mono ?_; rintro e w' ⟨rfl, rfl⟩)
                      go_round
                      case rel =>
                        refine ⟨m + 1, by omega, by go_num, fun j hj h1 => ?_⟩
                        rcases Nat.lt_or_eq_of_le (Nat.le_of_lt_succ h1) with h' | rfl
                        · exact Hq.out j hj h'
                        · rw [Hsv.out]; exact Hin.out
                      case measure => simp [intOf]; omega
                    · have e5 := B_f hin
                      have Hin := Lib.hid hin
                      clear hin
                      go_wp2_with (go_at_call 85; refine (within_any _ _ _ _).mono ?_; rintro e w' ⟨rfl, rfl⟩)
                      go_ret
                      exact ⟨ret_f (fun h => Hin.out (by rw [← Hsv.out]; exact (hok.out.1 ((hpl.out.1 h).2.2 k hlt)).2.2.1 _ (List.getElem_mem _))), hb4.out⟩
                  · obtain rfl : m = x.x.length := by omega
                    go_wp2
                    go_roundw
                    case rel =>
                      refine ⟨k + 1, by omega, by go_num, fun j hj => ?_, hb4.out⟩
                      rcases Nat.lt_or_eq_of_le (Nat.le_of_lt_succ hj) with h' | rfl
                      · exact Hp.out j h'
                      · refine hok.out.2 ⟨C1.out, by first | trivial | rfl, fun s hs => ?_, C4.out⟩
                        obtain ⟨j', hj', rfl⟩ := List.getElem_of_mem hs
                        exact Hq.out j' hj' hj'
                    case measure => simp [intOf]; omega
            · have C2 := Lib.hid c2
              go_wp2_with (first | (go_at_call 93; refine (isWord_any _ _ (by omega)).mono ?_; rintro e w' ⟨rfl, rfl⟩) | (go_at_call 94; refine (namedContains_any D k (by omega) _ _ _ x.name _ ((Hr.out.below hb2.out (Nat.le_refl _)).more hb2.out.size) hl (by simp [go_sem]) (by simp)).mono ?_; rintro e w3 ⟨rfl, hb3⟩; have q1 : w3.cell? ⟨wr.heap.size, 1, none⟩ = some (.slice x.A x.x.length x.c) := (hb3.cell (p := ⟨wr.heap.size, 1, none⟩) (by simp)).trans (by simp [go_sem])))
              go_ret
              exact ⟨ret_f (fun h => C2.out (hok.out.1 ((hpl.out.1 h).2.2 k hlt)).2.1), hb2.out⟩
          · have f1 := B_f c1
            have C1 := Lib.hid c1
            clear c1
            go_wp2_with (first | (go_at_call 93; refine (isWord_any _ _ (by omega)).mono ?_; rintro e w' ⟨rfl, rfl⟩) | (go_at_call 94; refine (namedContains_any D k (by omega) _ _ _ x.name _ ((Hr.out.below hb2.out (Nat.le_refl _)).more hb2.out.size) hl (by simp [go_sem]) (by simp)).mono ?_; rintro e w3 ⟨rfl, hb3⟩; have q1 : w3.cell? ⟨wr.heap.size, 1, none⟩ = some (.slice x.A x.x.length x.c) := (hb3.cell (p := ⟨wr.heap.size, 1, none⟩) (by simp)).trans (by simp [go_sem])))
            go_ret
            exact ⟨ret_f (fun h => C1.out (hok.out.1 ((hpl.out.1 h).2.2 k hlt)).1), hb2.out⟩
        · obtain rfl : k = D.length := by omega
          go_wp2
          go_ret
          exact ⟨ret_t (hpl.out.2 ⟨Hn.out, Hm.out, Hp.out⟩), Hbl.out⟩
    · have e2 := B_f hm
      have Hm := Lib.hid hm
      clear hm
      obtain ⟨hn1, hn2⟩ := hn
      go_enter Tryd.func58, Tryd.ntmps58
      go_wp2_with (first | (go_at_call 85; refine (within_any _ _ _ _).mono ?_; rintro e w' ⟨rfl, rfl⟩) | (go_at_call 92; refine (isStage_t n _ hn1 (by omega)).mono ?_; rintro e w' ⟨rfl, rfl⟩))
      go_ret
      exact ⟨ret_f (fun h => Hm.out (hpl.out.1 h).2.1), Below.refl _ _⟩
  · have Hn := Lib.hid hn
    by_cases h8 : 3 ≤ n ∧ n ≤ 8
    · obtain ⟨h81, h82⟩ := h8
      have h83 : 7 < n := by omega
      clear hn
      go_enter Tryd.func58, Tryd.ntmps58
      go_wp2_with (first | (go_at_call 85; refine (within_any _ _ _ _).mono ?_; rintro e w' ⟨rfl, rfl⟩) | (go_at_call 92; refine (isStage_t n _ h81 h82).mono ?_; rintro e w' ⟨rfl, rfl⟩))
      go_ret
      exact ⟨ret_f (fun h => Hn.out (hpl.out.1 h).1), Below.refl _ _⟩
    · have h9 : n < 3 ∨ 8 < n := by omega
      have H9 := Lib.hid h9
      clear hn h8 h9
      go_enter Tryd.func58, Tryd.ntmps58
      go_wp2_with (first | (go_at_call 85; refine (within_any _ _ _ _).mono ?_; rintro e w' ⟨rfl, rfl⟩) | (go_at_call 92; refine (isStage_f n _ H9.out).mono ?_; rintro e w' ⟨rfl, rfl⟩))
      go_ret
      exact ⟨ret_f (fun h => Hn.out (hpl.out.1 h).1), Below.refl _ _⟩
end Go.Proofs.YtbfhfnejppfehaaDoor
