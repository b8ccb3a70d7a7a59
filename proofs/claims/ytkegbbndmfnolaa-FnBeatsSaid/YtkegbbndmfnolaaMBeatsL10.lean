import Derived.Test.YtkegbbndmfnolaaMBeatsL08
import Derived.Test.YtkegbbndmfnolaaMBeatsL09
/-
  The start for given gaps: contracts of the reference; valid arguments, both sides.
-/
namespace Go.Proofs.Ytkegbbndmfnolaa
open Go.RowKit
set_option linter.unusedVariables false
set_option linter.unusedSimpArgs false
set_option maxRecDepth 100000




theorem l22Far_any (a b : Int) (w : World) (ha : inB a (-50000000) 50000000) (hb : inB b (-50000000) 50000000) : Calls Try.prog 105 #[.int .i64 a, .int .i64 b] w fun e' w' => e' = .returned (.int .i64 (absI (a - b))) ∧ w = w' := by
  unfold inB at ha hb
  obtain ⟨h1, h2⟩ := ha
  obtain ⟨h3, h4⟩ := hb
  have hm : ∀ (x y : Int) (w : World), Calls Try.prog 103 #[.int .i64 x, .int .i64 y] w fun e w' => e = .returned (.int .i64 (if x < y then y else x)) ∧ w = w' := fun x y w => by
    by_cases h : x < y
    · have h' : ¬ y < x := by omega
      go_enter Try.func103, Try.ntmps103
      go_wp2
      go_ret
      exact ⟨rfl, rfl⟩
    · by_cases h' : y < x
      · go_enter Try.func103, Try.ntmps103
        go_wp2
        go_ret
        exact ⟨rfl, rfl⟩
      · obtain rfl : x = y := by omega
        go_enter Try.func103, Try.ntmps103
        go_wp2
        go_ret
        exact ⟨rfl, rfl⟩
  have hab : Hid (absI (a - b) = if a - b < b - a then b - a else a - b) := Lib.hid (by unfold absI; by_cases h0 : a - b < 0 <;> by_cases h3 : a - b < b - a <;> simp [h0, h3] <;> omega)
  have Hm := Lib.hid hm
  clear hm
  go_enter Try.func105, Try.ntmps105
  go_wp2_with (go_at_call 103; refine (Hm.out _ _ _).mono ?_; rintro e' w' ⟨rfl, rfl⟩)
  all_goals
    go_ret
    exact ⟨ret_int (by rw [hab.out]; simp; try omega), rfl⟩
/-- The weighted sum of the distances from x, of the first k values. -/
def farTo (vs ws : List Int) (x : Int) (k : Nat) : Int := sumF (fun i => ws.getD i 0 * absI (vs.getD i 0 - x)) (List.range k)
theorem farTo_succ (vs ws : List Int) (x : Int) (k : Nat) : farTo vs ws x (k + 1) = farTo vs ws x k + ws.getD k 0 * absI (vs.getD k 0 - x) := sumF_range_succ _ _
theorem farTo_ones {vs : List Int} {m : Nat} (hm : vs.length = m) (x : Int) : farTo vs (List.replicate m 1) x vs.length = sumF (fun d => absI (d - x)) vs := by
  rw [← sumF_range]
  refine sumF_congr _ _ _ fun i hi => ?_
  rw [ones_at (by rw [← hm]; exact List.mem_range.1 hi), Int.one_mul]
theorem farTo_bd {vs ws : List Int} {x : Int} (hv : allIn vs (-50000000) 50000000) (hw : allIn ws 1 100) (hx : inB x (-50000000) 50000000) (hl : ws.length = vs.length) : ∀ k, k ≤ vs.length → 0 ≤ farTo vs ws x k ∧ farTo vs ws x k ≤ 10000000000 * k
  | 0, _ => by simp [farTo, sumF]
  | k + 1, hk => by
    have ih := farTo_bd hv hw hx hl k (by omega)
    have h1 := allIn_getD hv (k := k) (by omega)
    have h2 := allIn_getD hw (k := k) (by omega)
    unfold inB at hx
    have h3 := absI_bd2 (e := vs.getD k 0 - x) (B := 100000000) (by unfold inB; omega)
    have h4 := mul_bd (a := ws.getD k 0) (b := absI (vs.getD k 0 - x)) (by omega) h2.2 h3.1 h3.2
    rw [farTo_succ]; omega
set_option maxHeartbeats 800000 in
theorem l23Far_any (vs ws : List Int) (x : Int) (A A' : Option Addr) (c c' : Nat) (w : World) (h : RdL w w.heap.size A 1 encInt vs) (h' : RdL w w.heap.size A' 1 encInt ws) (hl : vs.length ≤ 400) (hlw : ws.length = vs.length) (hv : allIn vs (-50000000) 50000000) (hw : allIn ws 1 100) (hx : inB x (-50000000) 50000000) :
    Calls Try.prog 84 #[.slice A vs.length c, .slice A' ws.length c', .int .i64 x] w fun e w' => e = .returned (.int .i64 (farTo vs ws x vs.length)) ∧ Below w.heap.size w w' := by
  have H := Lib.hid h
  have H' := Lib.hid h'
  have Hv := Lib.hid hv
  have Hw := Lib.hid hw
  have Hx := Lib.hid hx
  have hbd := Lib.hid (farTo_bd hv hw hx hlw)
  have hs := Lib.hid (farTo_succ vs ws x)
  obtain ⟨S, hS⟩ : ∃ S : Nat → Int, Hid (S = farTo vs ws x) := ⟨_, Lib.hid rfl⟩
  rw [← hS.out] at hbd hs ⊢
  have hle : vs.length ≤ ws.length := by omega
  have hx1 := hx.1
  have hx2 := hx.2
  clear h h' hv hw hlw hx
  go_enter Try.func84, Try.ntmps84
  go_wp2
  go_loopw [7, 12] (fun s i wr => ∃ k : Nat, k ≤ vs.length ∧ i = .int .i64 k ∧ s = .int .i64 (S k) ∧ Below w.heap.size w wr) (fun _ i _ => vs.length - (intOf i).toNat)
  case atStart => exact ⟨0, by omega, by rfl, by rw [hS.out]; rfl, Below.refl _ _⟩
  case round =>
    obtain ⟨k, hk, rfl, rfl, hbl⟩ := hrel
    have Hbl := Lib.hid hbl
    clear hbl
    obtain ⟨b1, b2⟩ := hbd.out k hk
    have hst := hs.out k
    by_cases hlt : k < vs.length
    · have hlt' : k < ws.length := by omega
      rw [getD_get hlt, getD_get hlt'] at hst
      obtain ⟨x1, x2⟩ := allIn_get Hv.out hlt
      obtain ⟨y1, y2⟩ := allIn_get Hw.out hlt'
      obtain ⟨qg, qoff, qA, qhg, qcell⟩ := H.out.at (k := k) (by omega)
      have qr : w.cell? ⟨qg, qoff + k, none⟩ = some (.int .i64 (vs[k]'(by omega))) := by have := qcell 0 _ rfl; rw [Nat.mul_one] at this; exact this
      obtain ⟨qx, qh⟩ : ∃ x, Hid (vs[k]'(by omega) = x) := ⟨_, Lib.hid rfl⟩
      rw [qh.out] at qr
      clear qcell
      obtain ⟨rg, roff, rA, rhg, rcell⟩ := H'.out.at (k := k) (by omega)
      have rr : w.cell? ⟨rg, roff + k, none⟩ = some (.int .i64 (ws[k]'(by omega))) := by have := rcell 0 _ rfl; rw [Nat.mul_one] at this; exact this
      obtain ⟨rx, rh⟩ : ∃ x, Hid (ws[k]'(by omega) = x) := ⟨_, Lib.hid rfl⟩
      rw [rh.out] at rr
      clear rcell
      subst qA rA
      replace qr := (Hbl.out.cell (p := ⟨qg, qoff + k, none⟩) qhg).trans qr
      replace rr := (Hbl.out.cell (p := ⟨rg, roff + k, none⟩) rhg).trans rr
      rw [qh.out] at x1 x2 hst
      rw [rh.out] at y1 y2 hst
      obtain ⟨z1, z2⟩ := absI_bd2 (e := qx - x) (B := 100000000) (by unfold inB; omega)
      have hf : ∀ W, Calls Try.prog 105 #[.int .i64 qx, .int .i64 x] W fun e' w' => e' = .returned (.int .i64 (absI (qx - x))) ∧ w' = W := fun W => (l22Far_any qx x W (by unfold inB; omega) (by unfold inB; omega)).mono fun _ _ h => ⟨h.1, h.2.symm⟩
      have Hf := Lib.hid hf
      clear hf
      generalize absI (qx - x) = z at *
      obtain ⟨m1, m2⟩ := mul_bd (a := rx) (b := z) (by omega) y2 z1 z2
      generalize hSk : S k = s at *
      have HSk := Lib.hid hSk
      have Hst := Lib.hid hst
      clear hSk hst
      go_wp2
      go_quiet ((go_at_call 105; exact Calls.quiet_of_same (Hf.out _)))
      go_wp2
      go_roundw
      case rel => exact ⟨k + 1, by omega, by go_num, by rw [Hst.out], below_drewN Hbl.out _⟩
      case measure => simp [intOf]; omega
    · obtain rfl : k = vs.length := by omega
      have Hst := Lib.hid hst
      clear hst
      go_wp2
      go_ret
      exact ⟨rfl, Hbl.out⟩
theorem l23Ones_any (m : Nat) (w : World) (hm : m ≤ 400) :
    Calls Try.prog 82 #[.int .i64 (m : Int)] w fun e w' => ∃ A c, e = .returned (.slice A (List.replicate m (1 : Int)).length c) ∧ OwnL w' w.heap.size w'.heap.size A 1 encInt (List.replicate m (1 : Int)) ∧ Below w.heap.size w w' := by
  go_enter Try.func82, Try.ntmps82
  go_wp2_with (refine wpList_make_cells rfl 61 _ rfl 3 _ 8 rfl Int_info rfl .i64 m rfl (by omega) (by omega) ?_; intro w2 hc2 hb2 _)
  have HC := Lib.hid hc2
  have HB := Lib.hid hb2
  clear hc2 hb2
  go_loopw [9] (fun i wr => ∃ k : Nat, k ≤ m ∧ i = .int .i64 k ∧ Cells wr w.heap.size m (fun i => if i < k then .int .i64 1 else .int .i64 0) ∧ Below w.heap.size w wr) (fun i _ => m - (intOf i).toNat)
  case atStart => exact ⟨0, by omega, by rfl, HC.out.congr (fun i _ => by simp), HB.out⟩
  case round =>
    obtain ⟨k, hk, rfl, hc, hbl⟩ := hrel
    have Hc := Lib.hid hc
    have Hb := Lib.hid hbl
    have hgs := hbl.size
    clear hc hbl
    by_cases hlt : k < m
    · have r0 := Hc.out.cell hlt
      have f0 := Hc.out.free hlt
      have r1 : wr.cell? ⟨w.heap.size, k, none⟩ = some (.int .i64 0) := by simpa using r0
      clear r0
      go_wp2
      go_roundw
      case rel =>
        refine ⟨k + 1, by omega, by go_num, (Hc.out.set hlt _).congr (fun i hi => ?_), Hb.out.setCell (p := ⟨w.heap.size, k, none⟩) (Nat.le_refl _) _⟩
        by_cases e : i = k
        · subst e; rw [upd_same, if_pos (by omega)]
        · rw [upd_other _ _ _ _ e]
          by_cases e2 : i < k
          · rw [if_pos e2, if_pos (by omega)]
          · rw [if_neg e2, if_neg (by omega)]
      case measure => simp [intOf]; omega
    · obtain rfl : k = m := by omega
      have hlr : (List.replicate k (1 : Int)).length = k := by simp
      go_wp2
      go_ret
      refine ⟨_, _, by rw [hlr]; rfl, .inr ⟨w.heap.size, _, rfl, Nat.le_refl _, Hc.out.lt, by rw [hlr, Nat.mul_one]; exact Hc.out, fun i hi j u hu => ?_⟩, Hb.out⟩
      have hj : j = 0 := by have := (List.getElem?_eq_some_iff.1 hu).1; simp [encInt] at this; exact this
      subst hj
      simp [encInt] at hu hi
      rw [Nat.mul_one, Nat.add_zero, if_pos hi, hu]

set_option maxHeartbeats 3200000 in
theorem l23Start_any (n gap hand : Int) (l : List Blw) (A : Option Addr) (c : Nat) (w : World) (h : RdL w w.heap.size A 3 Blw.enc l) (hp : fitP n l gap hand) :
    Calls Try.prog 63 #[.int .i64 n, .slice A l.length c, .int .i64 gap, .int .i64 hand] w fun e w' => e = .returned (.tuple #[.int .i64 (startV n gap hand l), .int .i64 (farV n gap hand l)]) ∧ Below w.heap.size w w' := by
  have H := Lib.hid h
  have HP := Lib.hid hp
  have hl4 := hp.1.2.1
  have hl0 := hp.2.1
  clear h hp
  go_enter Try.func63, Try.ntmps63
  go_wp2
  skip
  go_loopw [10, 17] (fun v i wr => ∃ k : Nat, k ≤ l.length ∧ i = .int .i64 k ∧ Grow wr w.heap.size 3 1 encInt v (diffL n gap hand (l.take k)) ∧ Below w.heap.size w wr) (fun _ i _ => l.length - (intOf i).toNat)
  case atStart => exact ⟨0, by omega, by rfl, Grow.nil, Below.refl _ _⟩
  case round =>
    obtain ⟨k, hk, rfl, hg, hbl⟩ := hrel
    have Hg := Lib.hid hg
    have Hb := Lib.hid hbl
    have hz1 := hbl.size
    clear hg hbl
    by_cases hlt : k < l.length
    · obtain ⟨r, x1, x2, x3, x4, x5, x6, x7, x8, x9, x10⟩ := fit_blow HP.out hlt
      have hsu := diffL_succ n gap hand l k hlt
      have hd0 : diffOf n gap hand l[k] = l[k].at_ - blowV 0 gap hand n l[k].row l[k].place := rfl
      obtain ⟨g, off, hA, hgl, hcell⟩ := H.out.at hlt
      have r0 := (Hb.out.cell (p := ⟨g, off + k * 3, none⟩) hgl).trans (hcell 0 _ rfl)
      have r1 := (Hb.out.cell (p := ⟨g, off + k * 3 + 1, none⟩) hgl).trans (hcell 1 _ rfl)
      have r2 := (Hb.out.cell (p := ⟨g, off + k * 3 + 2, none⟩) hgl).trans (hcell 2 _ rfl)
      subst hA
      rw [x1] at r0 x9 x10 hd0
      generalize l[k].place = p at *
      generalize l[k].at_ = t at *
      generalize diffOf n gap hand l[k] = d at *
      have Hsu := Lib.hid hsu
      have Hd0 := Lib.hid hd0
      have hcall : ∀ W, Calls Try.prog 81 #[.agg #[.int .i64 0, .int .i64 gap, .int .i64 hand], .int .i64 n, .int .i64 (r : Int), .int .i64 p] W fun e w' => e = .returned (.int .i64 (blowV 0 gap hand n r p)) ∧ w' = W.alloc (.cells #[.int .i64 0, .int .i64 gap, .int .i64 hand] 31) := fun W => l21Blow_any 0 gap hand n p r W (by omega) ⟨by have := HP.out.2.2.1.1; omega, HP.out.2.2.1.2⟩ HP.out.2.2.2 HP.out.1.1 x2 ⟨x3, x4⟩
      have Hcall := Lib.hid hcall
      generalize blowV 0 gap hand n r p = bv at *
      have hdv : Hid (IntKind.i64.wrap (t - bv) = d) := Lib.hid (by rw [Hd0.out]; exact IntWalk.i64_in _ (by omega))
      have hlen : (diffL n gap hand (l.take k)).length ≤ 400 := by rw [diffL_len, List.length_take]; omega
      clear hcell hcall hsu hd0
      have hone : (∀ u ∈ [Value.int .i64 d], u.oneCell' = true) := by simp [Value.oneCell']
      have Hone := Lib.hid hone
      clear hone
      go_wp2
      have q0 : (wr.alloc (.cells #[.int .i64 (r : Int), .int .i64 p, .int .i64 t] 53)).cell? ⟨wr.heap.size, 0, none⟩ = some (.int .i64 (r : Int)) := by rw [World.cell?_alloc_new]; rfl
      have q1 : (wr.alloc (.cells #[.int .i64 (r : Int), .int .i64 p, .int .i64 t] 53)).cell? ⟨wr.heap.size, 1, none⟩ = some (.int .i64 p) := by rw [World.cell?_alloc_new]; rfl
      have q2 : (wr.alloc (.cells #[.int .i64 (r : Int), .int .i64 p, .int .i64 t] 53)).cell? ⟨wr.heap.size, 2, none⟩ = some (.int .i64 t) := by rw [World.cell?_alloc_new]; rfl
      have HG : Hid (Grow (wr.alloc (.cells #[.int .i64 (r : Int), .int .i64 p, .int .i64 t] 53)) w.heap.size 3 1 encInt u10 (diffL n gap hand (l.take k))) := Lib.hid (Hg.out.alloc _)
      have HBq : Hid (Below w.heap.size w (wr.alloc (.cells #[.int .i64 (r : Int), .int .i64 p, .int .i64 t] 53))) := Lib.hid (Hb.out.alloc hz1 _)
      have hgq : wr.heap.size < (wr.alloc (.cells #[.int .i64 (r : Int), .int .i64 p, .int .i64 t] 53)).heap.size := by simp
      clear r0 r1 r2
      generalize wr.alloc (.cells #[.int .i64 (r : Int), .int .i64 p, .int .i64 t] 53) = wq at *
      generalize wr.heap.size = gq at *
      have hwq := HBq.out.size
      go_region_law (first | (refine step_calls rfl 81 rfl #[.agg #[.int .i64 0, .int .i64 gap, .int .i64 hand], .int .i64 n, .int .i64 (r : Int), .int .i64 p] _ _ (by go_simp) (Hcall.out _) ?_) | (refine step_pushA rfl (.tmp 21) (.tmp 34) 61 rfl w.heap.size 3 _ 1 8 encInt rfl Int_info rfl (by omega) u10 (diffL n gap hand (l.take k)) [d] 1 rfl rfl (by simp) (show Grow (World.alloc wq.drew (.cells #[.int .i64 0, .int .i64 gap, .int .i64 hand] 31)) w.heap.size 3 1 encInt u10 (diffL n gap hand (l.take k)) from (HG.out.drewN 1).alloc _) (by rw [hdv.out]; rfl) encInt_len (by simp [Value.oneCell']) (by simp) (by simp only [List.length_singleton]; omega) (by omega) (by simp; omega) ?_; intro v' w2 hg2 hb2 _ _))
      all_goals
        have HG2 := Lib.hid hg2
        have HB2 := Lib.hid hb2
        clear hg2 hb2
        go_wp2
        go_roundw
        case rel => exact ⟨k + 1, by omega, by go_num, by rw [Hsu.out]; exact HG2.out, ((HBq.out.drew).alloc hwq _).trans HB2.out⟩
        case measure => simp [intOf]; omega
    · obtain rfl : k = l.length := by omega
      have hg := Hg.out
      rw [List.take_length] at hg
      obtain ⟨A9, c9, hv, ho9⟩ := hg.own encInt_len
      subst hv
      obtain ⟨g9, hA9, hg91, hg92, hg93⟩ := ho9.some_of (by rw [diffL_len]; omega)
      subst hA9
      have HO := Lib.hid ho9
      clear hg ho9
      skip
      have hnl := diffL_len n gap hand l
      have hall := diff_all HP.out
      obtain ⟨D, hD⟩ : ∃ D, Hid (diffL n gap hand l = D) := ⟨_, Lib.hid rfl⟩
      obtain ⟨st, hst⟩ : ∃ st, Hid (startV n gap hand l = st) := ⟨_, Lib.hid rfl⟩
      have hsb := start_bd HP.out
      rw [hst.out] at hsb
      have hfv : Hid (farV n gap hand l = sumF (fun d => absI (d - st)) D) := Lib.hid (by unfold farV; rw [hst.out, hD.out])
      have hmv : Hid (medOf D (List.replicate l.length 1) = st) := Lib.hid (by rw [← hst.out, ← hD.out]; rfl)
      have hO2 := HO.out
      rw [hD.out] at hO2 hnl hall ⊢
      have HO2 := Lib.hid hO2
      have hDn := Lib.hid hnl
      have hD4 : D.length ≤ 400 := by omega
      have hD0 : 0 < D.length := by omega
      have hone : allIn (List.replicate l.length (1 : Int)) 1 100 := fun s hs => by rw [(List.mem_replicate.1 hs).2]; unfold inB; omega
      have hvb : allIn D (-50000000) 50000000 := fun s hs => by have := hall s hs; unfold inB; omega
      have Hone := Lib.hid hone
      have Hvb := Lib.hid hvb
      have hrl : (List.replicate l.length (1 : Int)).length = l.length := by simp
      have Hrl := Lib.hid hrl
      have hff : Hid (farTo D (List.replicate l.length 1) st D.length = sumF (fun d => absI (d - st)) D) := Lib.hid (farTo_ones hDn.out st)
      obtain ⟨ws, hws⟩ : ∃ ws, Hid (List.replicate l.length (1 : Int) = ws) := ⟨_, Lib.hid rfl⟩
      have hon : Hid (∀ W, Calls Try.prog 82 #[.int .i64 (l.length : Int)] W fun e w' => ∃ A c, e = .returned (.slice A ws.length c) ∧ OwnL w' W.heap.size w'.heap.size A 1 encInt ws ∧ Below W.heap.size W w') := Lib.hid (fun W => by rw [← hws.out]; exact l23Ones_any l.length W hl4)
      have hWl : Hid (ws.length = D.length) := Lib.hid (by rw [← hws.out, hrl, hDn.out])
      have hme : Hid (∀ (B : Option Addr) (c c' : Nat) (A : Option Addr) (W : World), RdL W W.heap.size A 1 encInt D → RdL W W.heap.size B 1 encInt ws → Calls Try.prog 83 #[.slice A D.length c, .slice B ws.length c'] W fun e w' => e = .returned (.int .i64 st) ∧ W = w') := Lib.hid (fun B c c' A W h1 h2 => by have := l23Median_any D ws A B c c' W h1 h2 hD4 hD0 hWl.out (by rw [← hws.out]; exact hone); rw [← hws.out, hmv.out] at this; rw [← hws.out]; exact this)
      have hfa : Hid (∀ (B : Option Addr) (c c' : Nat) (A : Option Addr) (W : World), RdL W W.heap.size A 1 encInt D → RdL W W.heap.size B 1 encInt ws → Calls Try.prog 84 #[.slice A D.length c, .slice B ws.length c', .int .i64 st] W fun e w' => e = .returned (.int .i64 (farV n gap hand l)) ∧ Below W.heap.size W w') := Lib.hid (fun B c c' A W h1 h2 => by have := l23Far_any D ws st A B c c' W h1 h2 hD4 hWl.out hvb (by rw [← hws.out]; exact hone) (by unfold inB; omega); rw [← hws.out, hff.out, ← hfv.out] at this; rw [← hws.out]; exact this)
      obtain ⟨fv, hfw⟩ : ∃ fv, Hid (farV n gap hand l = fv) := ⟨_, Lib.hid rfl⟩
      rw [hfw.out] at hfa
      clear hO2 hnl hall hone hvb hrl
      go_wp2_with (first | (go_at_call 82; refine (hon.out _).mono ?_; rintro e w2 ⟨B, cb, rfl, ho2, hb2⟩; have HR2 := Lib.hid (ho2.rd encInt_len); have HR1 := Lib.hid ((HO2.out.later hb2).rd encInt_len); have HB2 := Lib.hid hb2; clear ho2 hb2) | (go_at_call 83; refine (hme.out _ _ _ _ _ HR1.out HR2.out).mono ?_; rintro e w3 ⟨rfl, rfl⟩) | (go_at_call 84; refine (hfa.out _ _ _ _ _ HR1.out HR2.out).mono ?_; rintro e w4 ⟨rfl, hb4⟩))
      go_ret2
      exact ⟨by rw [hst.out, hfw.out]; rfl, (Hb.out.trans (HB2.out.mono hz1)).trans (hb4.mono (Nat.le_trans hz1 HB2.out.size))⟩
end Go.Proofs.Ytkegbbndmfnolaa
