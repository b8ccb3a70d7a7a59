import Derived.Test.YtkegbbndmfnolaaMBeatsL14
import Derived.Test.YtkegbbndmfnolaaMBeatsL16
import Derived.Test.YtkegbbndmfnolaaMBeatsL17
import Derived.Test.YtkegbbndmfnolaaMBeatsL09
/-
  FnBeats: one contract for both outcomes of each function.
-/
namespace Go.Proofs.Ytkegbbndmfnolaa
open Go.RowKit
set_option linter.unusedVariables false
set_option linter.unusedSimpArgs false
set_option maxRecDepth 100000

open Classical in
/-- What FitGap answers. -/
noncomputable def fgR (n : Int) (l : List Blw) (low high hand : Int) : (Int × Int × Int) × Bool := if fitGP n l low high hand then (gapF n hand l low (high - low + 1).toNat, true) else ((0, 0, 0), false)
open Classical in
/-- What StartFor answers. -/
noncomputable def sfR (n : Int) (l : List Blw) (gap hand : Int) : (Int × Int) × Bool := if fitP n l gap hand then ((startV n gap hand l, farV n gap hand l), true) else ((0, 0), false)
open Classical in
/-- What FitBeat answers. -/
noncomputable def fbR (n : Int) (l : List Blw) (low high most : Int) : ((Int × Int × Int) × Int) × Bool := if fitBP n l low high most ∧ beatP (beatF n low high l (most + 1).toNat).1 then (beatF n low high l (most + 1).toNat, true) else (((0, 0, 0), 0), false)
theorem fgR_t {n low high hand : Int} {l : List Blw} (h : fitGP n l low high hand) : fgR n l low high hand = (gapF n hand l low (high - low + 1).toNat, true) := if_pos h
theorem fgR_f {n low high hand : Int} {l : List Blw} (h : ¬ fitGP n l low high hand) : fgR n l low high hand = ((0, 0, 0), false) := if_neg h
theorem sfR_t {n gap hand : Int} {l : List Blw} (h : fitP n l gap hand) : sfR n l gap hand = ((startV n gap hand l, farV n gap hand l), true) := if_pos h
theorem sfR_f {n gap hand : Int} {l : List Blw} (h : ¬ fitP n l gap hand) : sfR n l gap hand = ((0, 0), false) := if_neg h
theorem fgR_bd (n : Int) (l : List Blw) (low high hand : Int) : -20000000 ≤ (fgR n l low high hand).1.1 ∧ (fgR n l low high hand).1.1 ≤ 1000000 := by
  by_cases h : fitGP n l low high hand
  · rw [fgR_t h]
    have := gapF_bd h (high - low + 1).toNat (by have := h.2.2.1.2.1; omega)
    exact ⟨this.1, this.2.1⟩
  · rw [fgR_f h]; exact ⟨by decide, by decide⟩
theorem fgR_fit {n low high hand : Int} {l : List Blw} (h : (fgR n l low high hand).2 = true) : fitGP n l low high hand := by
  refine Classical.byContradiction fun hn => ?_
  rw [fgR_f hn] at h; cases h
theorem fbR_fit {n low high most : Int} {l : List Blw} (h : (fbR n l low high most).2 = true) : fitBP n l low high most ∧ fbR n l low high most = (beatF n low high l (most + 1).toNat, true) := by
  unfold fbR at h ⊢
  by_cases hc : fitBP n l low high most ∧ beatP (beatF n low high l (most + 1).toNat).1
  · rw [if_pos hc] at h ⊢; exact ⟨hc.1, rfl⟩
  · rw [if_neg hc] at h; cases h
/-- The best beat is no worse than the best gap without a handstroke gap. -/
theorem fbR_le {n low high most : Int} {l : List Blw} (h : (fbR n l low high most).2 = true) : (fgR n l low high 0).2 = true ∧ (fbR n l low high most).1.2 ≤ (fgR n l low high 0).1.2.2 := by
  obtain ⟨h1, h2⟩ := fbR_fit h
  have hm := h1.2.2.2
  have hg : fitGP n l low high 0 := ⟨h1.1, h1.2.1, h1.2.2.1, ⟨by decide, by decide⟩⟩
  rw [h2, fgR_t hg]
  refine ⟨rfl, ?_⟩
  have h3 := (beat_le h1 (most + 1).toNat.pred (by obtain ⟨a, b⟩ := hm; simp only [Nat.pred_eq_sub_one]; omega)).2
  rw [show (most + 1).toNat.pred + 1 = (most + 1).toNat from by obtain ⟨a, b⟩ := hm; simp only [Nat.pred_eq_sub_one]; omega] at h3
  exact h3
/-- The law's words on the best gap. -/
theorem fgR_law {n low high hand : Int} {l : List Blw} (h : (fgR n l low high hand).2 = true) :
    1 ≤ low ∧ low ≤ high ∧ high ≤ 2000 ∧ high - low ≤ 200 ∧ low ≤ (fgR n l low high hand).1.2.1 ∧ (fgR n l low high hand).1.2.1 ≤ high ∧
    sfR n l (fgR n l low high hand).1.2.1 hand = (((fgR n l low high hand).1.1, (fgR n l low high hand).1.2.2), true) ∧
    ∀ x : Int, low ≤ x → x ≤ high → (sfR n l x hand).2 = true ∧ (fgR n l low high hand).1.2.2 ≤ (sfR n l x hand).1.2 := by
  have hg := fgR_fit h
  obtain ⟨c1, c2, c3, c4⟩ := hg.2.2.1
  obtain ⟨g, h1, h2, h3, h4⟩ := gap_law hg
  rw [fgR_t hg, h3]
  refine ⟨c1, c2, c3, c4, h1, h2, sfR_t (fitGP_at hg h1 h2), fun x hx1 hx2 => ?_⟩
  rw [sfR_t (fitGP_at hg hx1 hx2)]
  exact ⟨rfl, h4 x hx1 hx2⟩
theorem fgR_shift {n low high hand : Int} {l : List Blw} (h : (fgR n l low high hand).2 = true) (h2 : (fgR n (l.map (laterB 7)) low high hand).2 = true) :
    fgR n (l.map (laterB 7)) low high hand = (((fgR n l low high hand).1.1 + 7, (fgR n l low high hand).1.2), true) := by
  rw [fgR_t (fgR_fit h2), fgR_t (fgR_fit h), gap_shift 7 (fgR_fit h)]




theorem iFitGap_r (n low high hand : Int) (l : List Blw) (A : Option Addr) (c : Nat) (w : World) (h : RdL w w.heap.size A 3 Blw.enc l) (hl : l.length ≤ 1048576) (hc : l.length ≤ c) : Calls Try.prog 21 #[.int .i64 n, .slice A l.length c, .int .i64 low, .int .i64 high, .int .i64 hand] w fun e w' => e = .returned (.tuple #[.int .i64 (fgR n l low high hand).1.1, .int .i64 (fgR n l low high hand).1.2.1, .int .i64 (fgR n l low high hand).1.2.2, .bool (fgR n l low high hand).2]) ∧ Below w.heap.size w w' := by
  by_cases hp : fitGP n l low high hand
  · rw [fgR_t hp]; exact iFitGap_t n low high hand l A c w h hl hc hp
  · rw [fgR_f hp]; exact iFitGap_f n low high hand l A c w h hl hc hp
theorem sFitGap_r (n low high hand : Int) (l : List Blw) (A : Option Addr) (c : Nat) (w : World) (h : RdL w w.heap.size A 3 Blw.enc l) (hl : l.length ≤ 1048576) (hc : l.length ≤ c) : Calls Try.prog 22 #[.int .i64 n, .slice A l.length c, .int .i64 low, .int .i64 high, .int .i64 hand] w fun e w' => e = .returned (.tuple #[.int .i64 (fgR n l low high hand).1.1, .int .i64 (fgR n l low high hand).1.2.1, .int .i64 (fgR n l low high hand).1.2.2, .bool (fgR n l low high hand).2]) ∧ Below w.heap.size w w' := by
  by_cases hp : fitGP n l low high hand
  · rw [fgR_t hp]; exact sFitGap_t n low high hand l A c w h hl hc hp
  · rw [fgR_f hp]; exact sFitGap_f n low high hand l A c w h hl hc hp
theorem iStart_r (n gap hand : Int) (l : List Blw) (A : Option Addr) (c : Nat) (w : World) (h : RdL w w.heap.size A 3 Blw.enc l) (hl : l.length ≤ 1048576) (hc : l.length ≤ c) : Calls Try.prog 25 #[.int .i64 n, .slice A l.length c, .int .i64 gap, .int .i64 hand] w fun e w' => e = .returned (.tuple #[.int .i64 (sfR n l gap hand).1.1, .int .i64 (sfR n l gap hand).1.2, .bool (sfR n l gap hand).2]) ∧ Below w.heap.size w w' := by
  by_cases hp : fitP n l gap hand
  · rw [sfR_t hp]; exact iStart_t n gap hand l A c w h hl hc hp
  · rw [sfR_f hp]; exact iStart_f n gap hand l A c w h hl hc hp
theorem sStart_r (n gap hand : Int) (l : List Blw) (A : Option Addr) (c : Nat) (w : World) (h : RdL w w.heap.size A 3 Blw.enc l) (hl : l.length ≤ 1048576) (hc : l.length ≤ c) : Calls Try.prog 31 #[.int .i64 n, .slice A l.length c, .int .i64 gap, .int .i64 hand] w fun e w' => e = .returned (.tuple #[.int .i64 (sfR n l gap hand).1.1, .int .i64 (sfR n l gap hand).1.2, .bool (sfR n l gap hand).2]) ∧ Below w.heap.size w w' := by
  by_cases hp : fitP n l gap hand
  · rw [sfR_t hp]; exact sStart_t n gap hand l A c w h hl hc hp
  · rw [sfR_f hp]; exact sStart_f n gap hand l A c w h hl hc hp
theorem iFitBeat_r (n low high most : Int) (l : List Blw) (A : Option Addr) (c : Nat) (w : World) (h : RdL w w.heap.size A 3 Blw.enc l) (hl : l.length ≤ 1048576) (hc : l.length ≤ c) : Calls Try.prog 28 #[.int .i64 n, .slice A l.length c, .int .i64 low, .int .i64 high, .int .i64 most] w fun e w' => e = .returned (.tuple #[.agg #[.int .i64 (fbR n l low high most).1.1.1, .int .i64 (fbR n l low high most).1.1.2.1, .int .i64 (fbR n l low high most).1.1.2.2], .int .i64 (fbR n l low high most).1.2, .bool (fbR n l low high most).2]) ∧ Below w.heap.size w w' := by
  by_cases hp : fitBP n l low high most
  · by_cases hb : beatP (beatF n low high l (most + 1).toNat).1
    · unfold fbR; rw [if_pos ⟨hp, hb⟩]; exact iFitBeat_y n low high most l A c w h hl hc hp (fun W => by have := goodBeat_any (beatF n low high l (most + 1).toNat).1 W; rw [B_t hb] at this; exact this)
    · unfold fbR; rw [if_neg (fun hx => hb hx.2)]; exact iFitBeat_z n low high most l A c w h hl hc hp (fun W => by have := goodBeat_any (beatF n low high l (most + 1).toNat).1 W; rw [B_f hb] at this; exact this)
  · unfold fbR; rw [if_neg (fun hx => hp hx.1)]; exact iFitBeat_f n low high most l A c w h hl hc hp
theorem sFitBeat_r (n low high most : Int) (l : List Blw) (A : Option Addr) (c : Nat) (w : World) (h : RdL w w.heap.size A 3 Blw.enc l) (hl : l.length ≤ 1048576) (hc : l.length ≤ c) : Calls Try.prog 29 #[.int .i64 n, .slice A l.length c, .int .i64 low, .int .i64 high, .int .i64 most] w fun e w' => e = .returned (.tuple #[.agg #[.int .i64 (fbR n l low high most).1.1.1, .int .i64 (fbR n l low high most).1.1.2.1, .int .i64 (fbR n l low high most).1.1.2.2], .int .i64 (fbR n l low high most).1.2, .bool (fbR n l low high most).2]) ∧ Below w.heap.size w w' := by
  by_cases hp : fitBP n l low high most
  · by_cases hb : beatP (beatF n low high l (most + 1).toNat).1
    · unfold fbR; rw [if_pos ⟨hp, hb⟩]; exact sFitBeat_y n low high most l A c w h hl hc hp (fun W => by have := l21Beat_any (beatF n low high l (most + 1).toNat).1 W; rw [B_t hb] at this; exact this)
    · unfold fbR; rw [if_neg (fun hx => hb hx.2)]; exact sFitBeat_z n low high most l A c w h hl hc hp (fun W => by have := l21Beat_any (beatF n low high l (most + 1).toNat).1 W; rw [B_f hb] at this; exact this)
  · unfold fbR; rw [if_neg (fun hx => hp hx.1)]; exact sFitBeat_f n low high most l A c w h hl hc hp
theorem sBlows_any (n : Int) (l : List Blw) (A : Option Addr) (c : Nat) (w : World) (h : RdL w w.heap.size A 3 Blw.enc l) (hl : l.length ≤ 1048576) (hc : l.length ≤ c) : Calls Try.prog 24 #[.int .i64 n, .slice A l.length c] w fun e w' => e = .returned (.bool (B (blowsP n l))) ∧ Below w.heap.size w w' := by
  have HV := Lib.hid h
  clear h
  go_enter Try.func24, Try.ntmps24
  go_wp2_with (go_at_call 39; refine (l23Good_any n l A c _ HV.out hl hc).mono ?_; rintro e w1 ⟨rfl, hb1⟩)
  go_ret
  exact ⟨rfl, hb1⟩
theorem number_any (l : List Int) (A : Option Addr) (c : Nat) (w : World) (h : RdL w w.heap.size A 1 encByte l) (hb : ∀ x ∈ l, 0 ≤ x ∧ x < 256) (hl : l.length ≤ 9223372036854775807) :
    Calls Try.prog 26 #[.slice A l.length c] w fun e w' => ∃ n : Int, e = .returned (.int .i64 n) ∧ 0 ≤ n ∧ n < 1000003 ∧ w' = w := by
  have H := Lib.hid h
  have Hb := Lib.hid hb
  clear h hb
  go_enter Try.func26, Try.ntmps26
  go_wp2
  go_loopw [3, 8] (fun v i wr => ∃ (k : Nat) (n : Int), k ≤ l.length ∧ i = .int .i64 k ∧ v = .int .i64 n ∧ 0 ≤ n ∧ n < 1000003 ∧ wr = w) (fun _ i _ => l.length - (intOf i).toNat)
  case atStart => exact ⟨0, 0, by omega, rfl, rfl, by omega, by omega, rfl⟩
  case round =>
    obtain ⟨k, n, hk, rfl, rfl, hn0, hn1, rfl⟩ := hrel
    by_cases hlt : k < l.length
    · obtain ⟨g, off, hA, hg, hcell⟩ := H.out.at hlt
      have r0 := hcell 0 _ rfl
      simp only [Nat.mul_one, Nat.add_zero] at r0
      subst hA
      obtain ⟨b1, b2⟩ := Hb.out l[k] (List.getElem_mem hlt)
      obtain ⟨x, hx⟩ : ∃ x, Hid (l[k] = x) := ⟨_, Lib.hid rfl⟩
      rw [hx.out] at r0 b1 b2
      clear hcell
      have hw8 : IntKind.i64.wrap x = x := IntWalk.i64_in _ (by omega)
      have hm : IntKind.i64.wrap (31 * n) = 31 * n := IntWalk.i64_in _ (by omega)
      have hs : IntKind.i64.wrap (31 * n + x) = 31 * n + x := IntWalk.i64_in _ (by omega)
      have hq0 : 0 ≤ (31 * n + x).tmod 1000003 := Int.tmod_nonneg _ (by omega)
      have hq1 : (31 * n + x).tmod 1000003 < 1000003 := Int.tmod_lt_of_pos _ (by omega)
      have hr : IntKind.i64.wrap ((31 * n + x).tmod 1000003) = (31 * n + x).tmod 1000003 := IntWalk.i64_in _ (by omega)
      go_wp2
      go_roundw
      case rel => exact ⟨k + 1, _, by omega, by go_num, rfl, by omega, by omega, trivial⟩
      case measure => simp [intOf]; omega
    · go_wp2
      go_ret
      exact ⟨n, rfl, hn0, hn1, rfl⟩
end Go.Proofs.Ytkegbbndmfnolaa

/-
  All lists of places of a change, in plain words (no program).
-/
namespace Go.Proofs.Ytkegbbndmfnolaa
open Go.RowKit
set_option linter.unusedVariables false
set_option linter.unusedSimpArgs false

/-- All ways to go on where k places are left. -/
def fromR (n : Nat) : Nat → List (List Int)
  | 0 => [[]]
  | 1 => [[(n : Int)]]
  | k + 2 => (fromR n (k + 1)).map (fun r => ((n : Int) - (k + 1)) :: r) ++ fromR n k
theorem fromR_succ (n k : Nat) : fromR n (k + 1) = (fromR n k).map (fun r => ((n : Int) - k) :: r) ++ (if k = 0 then [] else fromR n (k - 1)) := by
  cases k with
  | zero => simp [fromR]
  | succ k => simp [fromR]
theorem fromR_pos (n : Nat) : ∀ k, 0 < (fromR n k).length
  | 0 => by simp [fromR]
  | 1 => by simp [fromR]
  | k + 2 => by have := fromR_pos n k; simp [fromR]; omega
theorem fromR_len (n : Nat) : ∀ k, (fromR n k).length ≤ 2 ^ k
  | 0 => by simp [fromR]
  | 1 => by simp [fromR]
  | k + 2 => by
    have h1 := fromR_len n (k + 1)
    have h2 := fromR_len n k
    simp only [fromR, List.length_append, List.length_map]
    rw [show (2 : Nat) ^ (k + 2) = 2 ^ (k + 1) + 2 ^ (k + 1) by rw [Nat.pow_succ]; omega]
    have : (2 : Nat) ^ k ≤ 2 ^ (k + 1) := Nat.pow_le_pow_right (by omega) (by omega)
    omega
theorem fromR_in (n : Nat) : ∀ k, k ≤ n → ∀ r ∈ fromR n k, r.length ≤ k ∧ ∀ p ∈ r, 1 ≤ p ∧ p ≤ n
  | 0, _ => by simp [fromR]
  | 1, h => by simp [fromR]; omega
  | k + 2, h => by
    intro r hr
    simp only [fromR, List.mem_append, List.mem_map] at hr
    rcases hr with ⟨q, hq, rfl⟩ | hr
    · have := fromR_in n (k + 1) (by omega) q hq
      refine ⟨by simp; omega, fun p hp => ?_⟩
      rcases List.mem_cons.1 hp with rfl | hp
      · omega
      · exact this.2 p hp
    · have := fromR_in n k (by omega) r hr
      exact ⟨by omega, this.2⟩
/-- The last list of places: none, or the last place alone. -/
def lastR (n k : Nat) : List Int := if k % 2 = 0 then [] else [(n : Int)]
theorem fromR_last (n : Nat) : ∀ k, lastR n k ∈ fromR n k
  | 0 => by simp [fromR, lastR]
  | 1 => by simp [fromR, lastR]
  | k + 2 => by
    have := fromR_last n k
    have e : lastR n (k + 2) = lastR n k := by unfold lastR; rw [show (k + 2) % 2 = k % 2 by omega]
    rw [e]; simp only [fromR, List.mem_append]; exact .inr this
/-- The text of some places, each below ten. -/
def plcT (l : List Int) : ByteArray := mkS (l.map fun p => 48 + p)
def ofR (l : List Int) : ByteArray := if l = [] then dash else plcT l
theorem plcT_size (l : List Int) : (plcT l).size = l.length := by unfold plcT; rw [size_mkS]; simp
theorem ofR_nil : ofR [] = dash := if_pos rfl
theorem ofR_some {l : List Int} (h : l ≠ []) : ofR l = plcT l := if_neg h
/-- The last list of places makes a valid change. -/
theorem last_change {n : Nat} (h3 : 3 ≤ n) (h8 : n ≤ 8) : changeP (n : Int) (ofR (lastR n n)) := by
  by_cases e : n % 2 = 0
  · have : lastR n n = [] := by unfold lastR; rw [if_pos e]
    rw [this, ofR_nil]
    exact ⟨⟨by omega, by omega⟩, .inl ⟨rfl, by omega⟩⟩
  · have : lastR n n = [(n : Int)] := by unfold lastR; rw [if_neg e]
    rw [this, ofR_some (by simp)]
    have hs : (plcT [(n : Int)]).size = 1 := plcT_size _
    have hb : bat (plcT [(n : Int)]) ((0 : Nat) : Int) = 48 + (n : Int) := by
      unfold plcT
      rw [bat_mkS _ 0 (by simp) (by simp; omega) (by simp; omega)]; simp
    have hd : dg (plcT [(n : Int)]) 0 = (n : Int) := by unfold dg; rw [hb]; omega
    refine ⟨⟨by omega, by omega⟩, .inr ⟨fun h => ?_, by omega, by omega, fun i hi => ?_, ?_⟩⟩
    · rw [h] at hb
      have : bat dash ((0 : Nat) : Int) = 45 := rfl
      omega
    · obtain rfl : i = 0 := by omega
      unfold stepP
      rw [hd]
      show (0 : Int) < n ∧ (n : Int) ≤ n ∧ ((n : Int) - 0) % 2 ≠ 0
      omega
    · rw [hs]
      show ((n : Int) - dg (plcT [(n : Int)]) 0) % 2 = 0
      rw [hd]; omega
end Go.Proofs.Ytkegbbndmfnolaa
