/-
  MedianOf of the program returns what the reference's returns, for all arguments: no condition.
-/
import Derived.Test.YtdecjijldcbnjaaMedF
import Derived.Test.YtdecjijldcbnjaaClone
import Derived.Test.YtdecjijldcbnjaaSortW
import Derived.Test.YtdecjijldcbnjaaShelf
import Derived.Shelf.SlSortCmp.Whole1
import Derived.Deep.QuietTactic
namespace Go.Proofs.Ytdecjijldcbnjaa
open Go.RowKit Go.Sort Go.Shelf
set_option linter.unusedVariables false
set_option linter.unusedSimpArgs false
set_option maxRecDepth 100000

/-- Places of a list. -/
abbrev Ix (n : Nat) : Type := {i : Nat // i < n}
def encIx {n : Nat} (i : Ix n) : Value := .int .i64 (i.1 : Int)
def cfIx (vs : List Int) (i j : Ix vs.length) : Int := vs.getD i.1 0 - vs.getD j.1 0
theorem swoIx (vs : List Int) : SWO (ltOf (cfIx vs)) where
  irrefl x := by simp [ltOf, cfIx]
  trans x y z h1 h2 := by simp [ltOf, cfIx] at *; omega
  ntrans x y z h1 h2 := by simp [ltOf, cfIx] at *; omega
def allIx (n : Nat) : Array (Ix n) := Array.ofFn fun i : Fin n => ⟨i.1, i.2⟩
theorem allIx_size (n : Nat) : (allIx n).size = n := by simp [allIx]
theorem allIx_at {n : Nat} [Inhabited (Ix n)] {i : Nat} (h : i < n) : (allIx n)[i]! = ⟨i, h⟩ := by
  rw [getElem!_pos _ i (by rw [allIx_size]; exact h)]; simp [allIx]
theorem allIx_list (n : Nat) : (allIx n).toList.map (·.1) = List.range n := by
  apply List.ext_getElem
  · simp [allIx]
  · intro i h1 h2; simp [allIx]
def natsL (l : List Nat) : List Int := l.map fun i : Nat => (i : Int)
theorem natsL_len (l : List Nat) : (natsL l).length = l.length := List.length_map _
theorem natsL_succ (k : Nat) : natsL (List.range (k + 1)) = natsL (List.range k) ++ [(k : Int)] := by simp [natsL, List.range_succ]
theorem medCmp_any (vs : List Int) (A : Option Addr) (c gb b : Nat) (x y : Ix vs.length) (W : World) (hp : W.cell? ⟨gb, 0, none⟩ = some (.slice A vs.length c)) (hr : RdL W b A 1 encInt vs) (hb : allIn vs (-10000000) 10000000) :
    Calls Try.prog 141 #[.int .i64 (x.1 : Int), .int .i64 (y.1 : Int), .pointer (some ⟨gb, 0, none⟩)] W fun e w' => e = .returned (.int .i64 (cfIx vs x y)) ∧ ∃ q, w' = W.drewN q := by
  obtain ⟨i, hi⟩ := x
  obtain ⟨j, hj⟩ := y
  have hci : Hid (cfIx vs ⟨i, hi⟩ ⟨j, hj⟩ = vs[i] - vs[j]) := Lib.hid (by unfold cfIx; rw [getD_get hi, getD_get hj])
  obtain ⟨h1, h2⟩ := allIn_get hb hi
  obtain ⟨h3, h4⟩ := allIn_get hb hj
  obtain ⟨g, off, hA, hg, hcell⟩ := hr.at hi
  obtain ⟨g', off', hA', hg', hcell'⟩ := hr.at hj
  rw [hA] at hA'
  simp only [Option.some.injEq, Addr.mk.injEq, and_true] at hA'
  obtain ⟨rfl, rfl⟩ := hA'
  subst hA
  have r0 : W.cell? ⟨g, off + i, none⟩ = some (.int .i64 vs[i]) := by have := hcell 0 _ rfl; rw [Nat.mul_one] at this; exact this
  have r1 : W.cell? ⟨g, off + j, none⟩ = some (.int .i64 vs[j]) := by have := hcell' 0 _ rfl; rw [Nat.mul_one] at this; exact this
  clear hcell hcell' hr hb
  show Calls _ _ _ _ fun e w' => e = .returned (.int .i64 (cfIx vs ⟨i, hi⟩ ⟨j, hj⟩)) ∧ _
  generalize cfIx vs ⟨i, hi⟩ ⟨j, hj⟩ = C at hci ⊢
  generalize vs[i] = p at *
  generalize vs[j] = q at *
  go_enter Try.func141, Try.ntmps141
  go_wp2
  go_quiet (fail)
  go_wp2
  go_ret
  exact ⟨ret_int (by rw [hci.out]), _, rfl⟩
theorem sortIx_any (vs : List Int) (hl0 : 0 < vs.length) (hl : vs.length ≤ 400) (hv : allIn vs (-10000000) 10000000) (A : Option Addr) (c gb b blk cap c0 c1 : Nat) (w : World) (hp : w.cell? ⟨gb, 0, none⟩ = some (.slice A vs.length c)) (hgb : gb < w.heap.size) (hne : gb ≠ blk)
    (hr : RdL w b A 1 encInt vs) (hb : b ≤ blk) (ho : OwnL w c0 c1 (some ⟨blk, 0, none⟩) 1 encInt (natsL (List.range vs.length))) :
    Calls Try.prog 140 #[.slice (some ⟨blk, 0, none⟩) vs.length cap, .func (.func 141) #[] #[.pointer (some ⟨gb, 0, none⟩)]] w fun e w' => e = .returned (.tuple #[]) ∧ ∃ o : List Nat, o.Perm (List.range vs.length) ∧
      (∀ (i j : Nat) (hi : i < o.length) (hj : j < o.length), i < j → vs.getD o[i] 0 ≤ vs.getD o[j] 0) ∧ (∀ (j : Nat) (hj : j < o.length), w'.cell? ⟨blk, j, none⟩ = some (.int .i64 (o[j] : Int))) ∧ Chg blk (blk + 1) w w' := by
  haveI : Inhabited (Ix vs.length) := ⟨⟨0, hl0⟩⟩
  have hblk : blk < w.heap.size := by
    obtain ⟨g, f, hA, _, _, hc⟩ := ho.cells (by rw [natsL_len]; simpa using hl0)
    simp only [Option.some.injEq, Addr.mk.injEq, and_true] at hA; subst hA; exact hc.lt
  have hH : Holds encIx w blk 0 (allIx vs.length) := holds_own encIx (allIx vs.length) ho (by rw [natsL_len, allIx_size]; simp) (fun i h1 h2 => by
    rw [allIx_size] at h1
    rw [allIx_at h1]
    simp [natsL, encInt, encIx])
  have hcmp : CmpReads Try.prog 141 #[.pointer (some ⟨gb, 0, none⟩)] encIx (cfIx vs) blk 0 (allIx vs.length).size w := fun m os dk hs x y => by
    have hch := chg_sortWorld encIx w blk 0 m dk os
    exact medCmp_any vs A c gb b x y _ ((hch.cell (p := ⟨gb, 0, none⟩) hgb (by show gb < blk ∨ blk + 1 ≤ gb; omega)).trans hp) (hr.keep fun p hpb => hch.cell (by omega) (by omega)) hv
  have eg : ∀ args w, (callFunc 141 args).run Try.prog w = .ok (.enter 141 args) w := enters_of Try.func141 (by kernel_rfl) rfl
  have hcon := Any.slices_SortFunc Try.sortFuncInt encIx (fun _ => rfl) (cfIx vs) (swoIx vs) 141 #[.pointer (some ⟨gb, 0, none⟩)] blk 0 cap (allIx vs.length) w eg hcmp.lays hH hblk (by rw [allIx_size]; omega)
  change Calls Try.prog 140 _ _ _ at hcon
  rw [allIx_size] at hcon
  refine hcon.mono ?_
  rintro e w' ⟨rfl, d', n, os, hperm, hsort, rfl⟩
  obtain ⟨hs1, _, hpm⟩ := hperm
  rw [allIx_size] at hs1
  have hpm2 : d'.toList.Perm (allIx vs.length).toList := by
    rw [Array.extract_eq_self_of_le (by rw [hs1]; exact Nat.le_refl _), Array.extract_eq_self_of_le (by rw [allIx_size]; exact Nat.le_refl _)] at hpm
    exact hpm
  have hol : (d'.toList.map (·.1)).length = vs.length := by simp [hs1]
  have hget : ∀ (i : Nat) (hi : i < (d'.toList.map (·.1)).length), (d'.toList.map (·.1))[i] = (d'[i]!).1 := fun i hi => by
    rw [getElem!_pos d' i (by simpa using hi)]; simp
  refine ⟨rfl, d'.toList.map (·.1), ?_, fun i j hi hj hij => ?_, fun j hj => ?_, chg_sortWorld _ _ _ _ _ _ _⟩
  · rw [← allIx_list]; exact hpm2.map _
  · have := hsort i j (Nat.zero_le _) hij (by rw [hol] at hj; exact hj)
    rw [hget i hi, hget j hj]
    unfold ltOf cfIx at this
    have := of_decide_eq_false this
    omega
  · have := (cells_sortWorld encIx w blk n (allIx vs.length) d' os hblk hH (by rw [hs1, allIx_size])).cell (i := j) (by simpa using hj)
    rw [this, hget j hj]; rfl
set_option maxHeartbeats 3200000 in
theorem iMedian_t (vs ws : List Int) (A A' : Option Addr) (c c' : Nat) (w : World) (h : RdL w w.heap.size A 1 encInt vs) (h' : RdL w w.heap.size A' 1 encInt ws) (hl : vs.length ≤ 1048576) (hl' : ws.length ≤ 1048576) (hp : valP vs ws) :
    Calls Try.prog 53 #[.slice A vs.length c, .slice A' ws.length c'] w fun e w' => e = .returned (.tuple #[.int .i64 (medOf vs ws), .bool true]) ∧ Below w.heap.size w w' := by
  have H := Lib.hid h
  have H' := Lib.hid h'
  have HP := Lib.hid hp
  have e1 := B_t hp
  have h0 := hp.2.1
  have h400 := hp.1.1
  have hw2 := Lib.hid (fun (k : Nat) (hk : k < ws.length) => allIn_get hp.2.2.2 hk)
  have hlw1 : ws.length ≤ vs.length := by have := hp.2.2.1; omega
  have hlw2 : vs.length ≤ ws.length := by have := hp.2.2.1; omega
  have htot : Hid (wAll ws ws.length = wAll ws vs.length) := Lib.hid (by rw [hp.2.2.1])
  have hb0 : Hid (Below w.heap.size w (w.alloc (.cells #[.slice A vs.length c] 28))) := Lib.hid ((Below.refl _ _).alloc (Nat.le_refl _) _)
  have z0 : (w.alloc (.cells #[.slice A vs.length c] 28)).cell? ⟨w.heap.size, 0, none⟩ = some (.slice A vs.length c) := by rw [World.cell?_alloc_new]; rfl
  have hs0 : (w.alloc (.cells #[.slice A vs.length c] 28)).heap.size = w.heap.size + 1 := by simp
  have Hs0 := Lib.hid hs0
  have hwb := Lib.hid (wAll_bd hp.2.2.2)
  obtain ⟨T, hT⟩ : ∃ T, Hid (wAll ws ws.length = T) := ⟨_, Lib.hid rfl⟩
  obtain ⟨ht1, ht2⟩ := hwb.out ws.length (Nat.le_refl _)
  rw [hT.out] at ht1 ht2
  have htA : ∀ W, Below w.heap.size w W → Calls Try.prog 142 #[.slice A' ws.length c'] W fun e w' => e = .returned (.int .i64 T) ∧ W = w' := fun W hb => by
    have := total_any ws A' c' W ((h'.below hb (Nat.le_refl _)).more hb.size) (by omega) hp.2.2.2
    rw [hT.out] at this; exact this
  have HtA := Lib.hid htA
  clear h h' hp hs0 htA
  go_enter Try.func53, Try.ntmps53
  go_wp2_with (go_at_call 136; refine (goodValues_any vs ws A A' c c' _ ((H.out.below hb0.out (Nat.le_refl _)).more hb0.out.size) ((H'.out.below hb0.out (Nat.le_refl _)).more hb0.out.size) hl hl').mono ?_; rintro e w' ⟨rfl, rfl⟩)
  generalize hW0 : w.alloc (.cells #[.slice A vs.length c] 28) = W0 at *
  have HW0 := Lib.hid hW0
  clear hW0
  go_loopw [6, 18] (fun v i wr => ∃ k : Nat, k ≤ vs.length ∧ i = .int .i64 k ∧ Grow wr W0.heap.size 3 1 encInt v (natsL (List.range k)) ∧ Below W0.heap.size W0 wr) (fun _ i _ => vs.length - (intOf i).toNat)
  case atStart => exact ⟨0, by omega, by rfl, (by rw [← Hs0.out]; exact Grow.empty (Nat.le_refl _)), (Below.refl _ _).alloc (Nat.le_refl _) _⟩
  case round =>
    obtain ⟨k, hk, rfl, hg, hbl⟩ := hrel
    have Hg := Lib.hid hg
    have Hb := Lib.hid hbl
    have hz1 := hbl.size
    clear hg hbl
    by_cases hlt : k < vs.length
    · have hlen : (natsL (List.range k)).length ≤ 400 := by rw [natsL_len]; simp; omega
      have hone : ∀ u ∈ [Value.int .i64 (k : Int)], u.oneCell' = true := by simp [Value.oneCell']
      have Hone := Lib.hid hone
      clear hone
      go_wp2_with (at_builtin; refine wpList_push rfl (.tmp 21) (.tmp 23) 28 rfl W0.heap.size 3 _ 1 8 encInt rfl Int_info rfl (by omega) u6 (natsL (List.range k)) [(k : Int)] 1 rfl rfl (by first | rfl | simp) Hg.out rfl encInt_len Hone.out (by simp only [List.length_singleton]; omega) (by omega) (by first | omega | (simp; omega)) ?_; intro v' w9 hg9 hb9 _)
      go_roundw
      case rel => exact ⟨k + 1, by omega, by go_num, by rw [natsL_succ]; exact hg9, Hb.out.trans hb9⟩
      case measure => simp [intOf]; omega
    · obtain rfl : k = vs.length := by omega
      obtain ⟨A9, c9, hv, ho9⟩ := Hg.out.own encInt_len
      subst hv
      obtain ⟨g9, hA9, hg91, hg92, hg93⟩ := ho9.some_of (by rw [natsL_len]; simp; omega)
      subst hA9
      have hnl : (natsL (List.range vs.length)).length = vs.length := by rw [natsL_len]; simp
      have hbw : Hid (Below w.heap.size w wr) := Lib.hid (hb0.out.trans (Hb.out.mono hb0.out.size))
      have hzw : w.heap.size + 1 ≤ W0.heap.size := by have := Hs0.out; omega
      have zr : wr.cell? ⟨w.heap.size, 0, none⟩ = some (.slice A vs.length c) := (Hb.out.cell (p := ⟨w.heap.size, 0, none⟩) (show w.heap.size < W0.heap.size by omega)).trans z0
      have HO := Lib.hid ho9
      have hsort : Hid (∀ cap, Calls Try.prog 140 #[.slice (some ⟨g9, 0, none⟩) vs.length cap, .func (.func 141) #[] #[.pointer (some ⟨w.heap.size, 0, none⟩)]] wr fun e w' => e = .returned (.tuple #[]) ∧ ∃ o : List Nat, o.Perm (List.range vs.length) ∧
          (∀ (i j : Nat) (hi : i < o.length) (hj : j < o.length), i < j → vs.getD o[i] 0 ≤ vs.getD o[j] 0) ∧ (∀ (j : Nat) (hj : j < o.length), w'.cell? ⟨g9, j, none⟩ = some (.int .i64 (o[j] : Int))) ∧ Chg g9 (g9 + 1) wr w') :=
        Lib.hid (fun cap => sortIx_any vs h0 h400 HP.out.1.2 A c w.heap.size w.heap.size g9 cap W0.heap.size wr.heap.size wr zr (by omega) (by omega) (H.out.below hbw.out (Nat.le_refl _)) (by omega) HO.out)
      rw [hnl]
      clear hnl ho9 z0
      go_wp2_with (go_at_call 140; refine (hsort.out _).mono ?_; rintro e w2 ⟨rfl, o, hperm, hord, hcells, hchg⟩; have HPerm := Lib.hid hperm; have HOrd := Lib.hid hord; have HCells := Lib.hid hcells; have HChg := Lib.hid hchg; clear hperm hord hcells hchg)
      have hol : o.length = vs.length := by have := HPerm.out.length_eq; simpa using this
      have Hol := Lib.hid hol
      have hon : Hid (∀ (k : Nat) (hk : k < o.length), o[k] < vs.length) := Lib.hid (fun k hk => List.mem_range.1 (HPerm.out.mem_iff.1 (List.getElem_mem hk)))
      obtain ⟨P, hP⟩ : ∃ P : Nat → Int, Hid (P = fun k => sumF (fun i => ws.getD i 0) (o.take k)) := ⟨_, Lib.hid rfl⟩
      have hPs : Hid (∀ (k : Nat) (hk : k < o.length), P (k + 1) = P k + ws.getD o[k] 0) := Lib.hid (fun k hk => by rw [hP.out]; exact sumF_take_succ _ _ _ hk)
      have hPb : Hid (∀ k, k ≤ o.length → 0 ≤ P k ∧ P k ≤ 100 * k) := Lib.hid (fun k => by
        induction k with
        | zero => intro _; rw [hP.out]; simp [sumF]
        | succ k ih => intro hk; have := ih (by omega); have h1 := hPs.out k (by omega); have h2 := hw2.out o[k] (by have := hon.out k (by omega); omega); rw [← getD_get] at h2; omega)
      have hfin : Hid (∀ (k : Nat) (hk : k < o.length), 2 * P k < T → T ≤ 2 * P (k + 1) → medOf vs ws = vs.getD o[k] 0) := Lib.hid (fun k hk h1 h2 => medOf_eq (isMed_of_order o HPerm.out (fun i hi => by have := hw2.out i (by omega); rw [getD_get (by omega)]; omega) HOrd.out k hk (by rw [← htot.out, hT.out]; rw [hP.out] at h1; exact h1) (by rw [← htot.out, hT.out]; rw [hP.out] at h2; exact h2)))
      have hPe : Hid (P o.length = T) := Lib.hid (by rw [hP.out, ← hT.out, htot.out]; exact order_all o HPerm.out)
      have hT0 : 0 < T := by have := wAll_ge HP.out.2.2.2 ws.length (Nat.le_refl _); rw [hT.out] at this; omega
      have hb2 : Hid (Below w.heap.size w w2) := Lib.hid (Go.Proofs.Ytdecjijldcbnjaa.Below.chg hbw.out HChg.out (by omega) (by have := hbw.out.size; omega))
      have zr2 : w2.cell? ⟨w.heap.size, 0, none⟩ = some (.slice A vs.length c) := (HChg.out.cell (p := ⟨w.heap.size, 0, none⟩) (show w.heap.size < wr.heap.size by omega) (.inl (show w.heap.size < g9 by omega))).trans zr
      clear hol zr
      go_loop [8, 31] (fun s i => ∃ k : Nat, k ≤ vs.length ∧ i = .int .i64 k ∧ s = .int .i64 (P k) ∧ 2 * P k < T) (fun _ i => vs.length - (intOf i).toNat)
      case atStart => exact ⟨0, by omega, by rfl, by rw [hP.out]; rfl, by rw [hP.out]; simp [sumF]; omega⟩
      case round =>
        obtain ⟨k, hk, rfl, rfl, hlt2⟩ := hrel
        obtain ⟨b1, b2⟩ := hPb.out k (by rw [Hol.out]; exact hk)
        by_cases hlt : k < vs.length
        · have hko : k < o.length := by rw [Hol.out]; exact hlt
          have hst := hPs.out k hko
          have hin := hon.out k hko
          have hf := hfin.out k hko
          have rc := HCells.out k hko
          generalize o[k] = i at hst hin hf rc
          have hiw : i < ws.length := by omega
          obtain ⟨x1, x2⟩ := hw2.out i hiw
          rw [getD_get hiw] at hst
          rw [getD_get hin] at hf
          generalize hPk : P k = p at hst hf hlt2 b1 b2 ⊢
          have HPk := Lib.hid hPk
          clear hPk
          obtain ⟨qg, qoff, qA, qhg, qcell⟩ := (H'.out.below hb2.out (Nat.le_refl _)).at hiw
          have qr : w2.cell? ⟨qg, qoff + i, none⟩ = some (.int .i64 ws[i]) := by have := qcell 0 _ rfl; rw [Nat.mul_one] at this; exact this
          obtain ⟨rg, roff, rA, rhg, rcell⟩ := (H.out.below hb2.out (Nat.le_refl _)).at hin
          have rr : w2.cell? ⟨rg, roff + i, none⟩ = some (.int .i64 vs[i]) := by have := rcell 0 _ rfl; rw [Nat.mul_one] at this; exact this
          obtain ⟨x, hx⟩ : ∃ x, Hid (ws[i] = x) := ⟨_, Lib.hid rfl⟩
          obtain ⟨y, hy⟩ : ∃ y, Hid (vs[i] = y) := ⟨_, Lib.hid rfl⟩
          rw [hx.out] at qr hst x1 x2
          rw [hy.out] at rr hf
          subst qA rA
          have Hst := Lib.hid hst
          have Hf := Lib.hid hf
          clear qcell rcell hst hf
          by_cases c1 : T ≤ 2 * (p + x)
          · go_wp2_with (go_at_call 142; refine (HtA.out _ hb2.out).mono ?_; rintro e w' ⟨rfl, rfl⟩)
            go_ret2
            exact ⟨by rw [Hf.out hlt2 (by rw [Hst.out]; exact c1)]; rfl, hb2.out⟩
          · go_wp2_with (go_at_call 142; refine (HtA.out _ hb2.out).mono ?_; rintro e w' ⟨rfl, rfl⟩)
            go_round
            case rel => exact ⟨k + 1, by omega, by go_num, by rw [Hst.out], by rw [Hst.out]; omega⟩
            case measure => simp [intOf]; omega
        · exfalso
          obtain rfl : k = vs.length := by omega
          have := hPe.out
          rw [Hol.out] at this
          omega
theorem iMedian_f (vs ws : List Int) (A A' : Option Addr) (c c' : Nat) (w : World) (h : RdL w w.heap.size A 1 encInt vs) (h' : RdL w w.heap.size A' 1 encInt ws) (hl : vs.length ≤ 1048576) (hl' : ws.length ≤ 1048576) (hp : ¬ valP vs ws) :
    Calls Try.prog 53 #[.slice A vs.length c, .slice A' ws.length c'] w fun e w' => e = .returned (.tuple #[.int .i64 0, .bool false]) ∧ Below w.heap.size w w' := by
  have H := Lib.hid h
  have H' := Lib.hid h'
  have e1 := B_f hp
  have hb0 : Hid (Below w.heap.size w (w.alloc (.cells #[.slice A vs.length c] 28))) := Lib.hid ((Below.refl _ _).alloc (Nat.le_refl _) _)
  have z0 : (w.alloc (.cells #[.slice A vs.length c] 28)).cell? ⟨w.heap.size, 0, none⟩ = some (.slice A vs.length c) := by rw [World.cell?_alloc_new]; rfl
  clear h h' hp
  go_enter Try.func53, Try.ntmps53
  go_wp2_with (go_at_call 136; refine (goodValues_any vs ws A A' c c' _ ((H.out.below hb0.out (Nat.le_refl _)).more hb0.out.size) ((H'.out.below hb0.out (Nat.le_refl _)).more hb0.out.size) hl hl').mono ?_; rintro e w' ⟨rfl, rfl⟩)
  go_ret2
  exact ⟨rfl, hb0.out⟩
theorem sMedian_t (vs ws : List Int) (A A' : Option Addr) (c c' : Nat) (w : World) (h : RdL w w.heap.size A 1 encInt vs) (h' : RdL w w.heap.size A' 1 encInt ws) (hl : vs.length ≤ 1048576) (hl' : ws.length ≤ 1048576) (hp : valP vs ws) :
    Calls Try.prog 54 #[.slice A vs.length c, .slice A' ws.length c'] w fun e w' => e = .returned (.tuple #[.int .i64 (medOf vs ws), .bool true]) ∧ Below w.heap.size w w' := by
  have H := Lib.hid h
  have H' := Lib.hid h'
  have HP := Lib.hid hp
  have e1 := B_t hp
  clear h h' hp
  go_enter Try.func54, Try.ntmps54
  go_wp2_with (first | (go_at_call 138; refine (l23Asked_any vs ws A A' c c' _ H.out H'.out hl hl').mono ?_; rintro e w' ⟨rfl, rfl⟩) | (go_at_call 143; refine (l23Median_any vs ws A A' c c' _ H.out H'.out HP.out.1.1 HP.out.2.1 HP.out.2.2.1 HP.out.2.2.2).mono ?_; rintro e w' ⟨rfl, rfl⟩))
  go_ret2
  exact ⟨rfl, Below.refl _ _⟩
theorem sMedian_f (vs ws : List Int) (A A' : Option Addr) (c c' : Nat) (w : World) (h : RdL w w.heap.size A 1 encInt vs) (h' : RdL w w.heap.size A' 1 encInt ws) (hl : vs.length ≤ 1048576) (hl' : ws.length ≤ 1048576) (hp : ¬ valP vs ws) :
    Calls Try.prog 54 #[.slice A vs.length c, .slice A' ws.length c'] w fun e w' => e = .returned (.tuple #[.int .i64 0, .bool false]) ∧ Below w.heap.size w w' := by
  have H := Lib.hid h
  have H' := Lib.hid h'
  have e1 := B_f hp
  clear h h' hp
  go_enter Try.func54, Try.ntmps54
  go_wp2_with (go_at_call 138; refine (l23Asked_any vs ws A A' c c' _ H.out H'.out hl hl').mono ?_; rintro e w' ⟨rfl, rfl⟩)
  go_ret2
  exact ⟨rfl, Below.refl _ _⟩
end Go.Proofs.Ytdecjijldcbnjaa
