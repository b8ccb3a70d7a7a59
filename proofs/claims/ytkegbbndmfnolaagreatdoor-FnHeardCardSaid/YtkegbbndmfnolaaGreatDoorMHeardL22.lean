import Derived.Test.YtkegbbndmfnolaaGreatDoorRows
import Derived.Test.YtkegbbndmfnolaaGreatDoorMHeardL01
import Derived.StillTailTactics
import Derived.Deep.RegionHeld3
import Derived.Test.YtkegbbndmfnolaaGreatDoorMHeardL05
import Derived.Test.YtkegbbndmfnolaaGreatDoorMHeardL06
import Derived.Test.YtkegbbndmfnolaaGreatDoorMHeardL03
import Derived.Test.YtkegbbndmfnolaaGreatDoorMHeardL00
/-
  Contracts of the helper functions that the laws use for lists of Spoken.
-/
namespace Go.Proofs.YtkegbbndmfnolaaGreatDoor
open Go.RowKit Go.ChangeShapes Go.WideShapes
set_option linter.unusedVariables false
set_option linter.unusedSimpArgs false
set_option maxRecDepth 100000


structure Spk where
  row : Int
  word : ByteArray

def Spk.enc (x : Spk) : List Value := [.int .i64 x.row, .string x.word]
theorem Spk_enc_len (x : Spk) : (Spk.enc x).length = 2 := rfl
def Spoken_small (lim : Int) (x : Spk) : Prop := (x.word.size : Int) ≤ lim
theorem Spoken_info : (Tryz.prog.info? 108).map (fun i => (i.zero, i.size, i.bytes)) = some (some (.agg #[.int .i64 0, .string ⟨#[]⟩]), 2, 24) := by kernel_rfl

/-- What the marks make of a list of so many elements. -/
def markSpokenL (m q : Nat) : List Spk := (List.range m).map fun i : Nat => (⟨((q + i * 2 : Nat) : Int), (markT (q + i * 2 + 1))⟩ : Spk)
end Go.Proofs.YtkegbbndmfnolaaGreatDoor
/-
  Contracts: lists of spoken words (both sides).
-/
namespace Go.Proofs.YtkegbbndmfnolaaGreatDoor
open Go.RowKit
set_option linter.unusedVariables false
set_option linter.unusedSimpArgs false
set_option maxRecDepth 100000


theorem indexS_any (l : List ByteArray) (A : Option Addr) (c : Nat) (s : ByteArray) (w : World) (h : RdL w w.heap.size A 1 encString l) (hl : l.length ≤ 1048576) :
    Calls Tryz.prog 187 #[.slice A l.length c, .string s] w fun e w' => ∃ r : Int, e = .returned (.int .i64 r) ∧ ((0 ≤ r ∧ s ∈ l) ∨ (r = -1 ∧ ¬ s ∈ l)) ∧ ∃ n, w' = w.drewN n := by
  go_enter Tryz.func187, Tryz.ntmps187
  go_wp2
  go_loopw [8] (fun i wr => ∃ k : Nat, k ≤ l.length ∧ i = .int .i64 k ∧ (∀ (j : Nat) (hj : j < l.length), j < k → l[j] ≠ s) ∧ ∃ n, wr = w.drewN n) (fun i _ => l.length - (intOf i).toNat)
  case atStart => exact ⟨0, by omega, by rfl, by omega, 0, rfl⟩
  case round =>
    obtain ⟨k, hk, rfl, hp, n, rfl⟩ := hrel
    have Hp := Lib.hid hp
    clear hp
    by_cases hlt : k < l.length
    · obtain ⟨g, off, hA, hg, hcell⟩ := h.at hlt
      subst hA
      have r0 : w.cell? ⟨g, off + k, none⟩ = some (.string l[k]) := by have := hcell 0 _ rfl; rw [Nat.mul_one] at this; exact this
      clear hcell h
      obtain ⟨x, hx⟩ : ∃ x, Hid (l[k] = x) := ⟨l[k], Lib.hid rfl⟩
      rw [hx.out] at r0
      by_cases hc : s = x
      · have e1 := eqB_t hc
        have Hc := Lib.hid hc
        clear hc
        go_wp2
        go_ret
        exact ⟨_, rfl, .inl ⟨by omega, by rw [Hc.out, ← hx.out]; exact List.getElem_mem _⟩, _, rfl⟩
      · have e1 := eqB_f hc
        have Hc := Lib.hid hc
        clear hc
        go_wp2
        go_roundw
        case rel =>
          refine ⟨k + 1, by omega, by go_num, fun j hj hj1 => ?_, _, rfl⟩
          rcases Nat.lt_or_eq_of_le (Nat.le_of_lt_succ hj1) with h' | rfl
          · exact Hp.out j hj h'
          · rw [hx.out]; exact fun e => Hc.out e.symm
        case measure => simp [intOf]; omega
    · go_wp2
      go_ret
      refine ⟨_, rfl, .inr ⟨rfl, fun hm => ?_⟩, _, rfl⟩
      obtain ⟨j, hj, e⟩ := List.getElem_of_mem hm
      exact Hp.out j hj (by omega) e
theorem containsS_any (l : List ByteArray) (A : Option Addr) (c : Nat) (s : ByteArray) (w : World) (h : RdL w w.heap.size A 1 encString l) (hl : l.length ≤ 1048576) :
    Calls Tryz.prog 167 #[.slice A l.length c, .string s] w fun e w' => e = .returned (.bool (B (s ∈ l))) ∧ ∃ n, w' = w.drewN n := by
  have Hh := Lib.hid h
  clear h
  go_enter Tryz.func167, Tryz.ntmps167
  go_wp2_with fail
  refine (indexS_any l A c s _ Hh.out hl).mono ?_
  rintro e w' ⟨r, rfl, hr, n, rfl⟩
  rcases hr with ⟨h1, h2⟩ | ⟨h1, h2⟩
  · have H2 := Lib.hid h2
    clear h2
    go_wp2
    go_ret
    exact ⟨by rw [B_t H2.out]; first | rfl | (simp; done) | (simp; omega), _, rfl⟩
  · subst h1
    have H2 := Lib.hid h2
    clear h2
    go_wp2
    go_ret
    exact ⟨by rw [B_f H2.out]; rfl, _, rfl⟩
theorem l1HasS_any (l : List ByteArray) (A : Option Addr) (c : Nat) (s : ByteArray) (w : World) (h : RdL w w.heap.size A 1 encString l) (hl : l.length ≤ 1048576) :
    Calls Tryz.prog 169 #[.slice A l.length c, .string s] w fun e w' => e = .returned (.bool (B (s ∈ l))) ∧ ∃ n, w' = w.drewN n := by
  go_enter Tryz.func169, Tryz.ntmps169
  go_wp2
  go_loopw [9] (fun i wr => ∃ k : Nat, k ≤ l.length ∧ i = .int .i64 k ∧ (∀ (j : Nat) (hj : j < l.length), j < k → l[j] ≠ s) ∧ ∃ n, wr = w.drewN n) (fun i _ => l.length - (intOf i).toNat)
  case atStart => exact ⟨0, by omega, by rfl, by omega, 0, rfl⟩
  case round =>
    obtain ⟨k, hk, rfl, hp, n, rfl⟩ := hrel
    have Hp := Lib.hid hp
    clear hp
    by_cases hlt : k < l.length
    · obtain ⟨g, off, hA, hg, hcell⟩ := h.at hlt
      subst hA
      have r0 : w.cell? ⟨g, off + k, none⟩ = some (.string l[k]) := by have := hcell 0 _ rfl; rw [Nat.mul_one] at this; exact this
      clear hcell h
      obtain ⟨x, hx⟩ : ∃ x, Hid (l[k] = x) := ⟨l[k], Lib.hid rfl⟩
      rw [hx.out] at r0
      by_cases hc : x = s
      · have e1 := eqB_t hc
        have Hc := Lib.hid hc
        clear hc
        go_wp2
        go_ret
        exact ⟨ret_t (by rw [← Hc.out, ← hx.out]; exact List.getElem_mem _), _, rfl⟩
      · have e1 := eqB_f hc
        have Hc := Lib.hid hc
        clear hc
        go_wp2
        go_roundw
        case rel =>
          refine ⟨k + 1, by omega, by go_num, fun j hj hj1 => ?_, _, rfl⟩
          rcases Nat.lt_or_eq_of_le (Nat.le_of_lt_succ hj1) with h' | rfl
          · exact Hp.out j hj h'
          · rw [hx.out]; exact Hc.out
        case measure => simp [intOf]; omega
    · go_wp2
      go_ret
      refine ⟨ret_f (fun hm => ?_), _, rfl⟩
      obtain ⟨j, hj, e⟩ := List.getElem_of_mem hm
      exact Hp.out j hj (by omega) e
/-- The words of conductors. -/
def spokenWords : List ByteArray := [⟨#[103, 111]⟩, ⟨#[98, 111, 98]⟩, ⟨#[115, 105, 110, 103, 108, 101]⟩, ⟨#[97, 108, 108]⟩, ⟨#[115, 116, 97, 110, 100]⟩]
def spokenP (s : ByteArray) : Prop := s ∈ spokenWords
theorem spoken_rd (w : World) : RdL (w.alloc (.cells #[.string ⟨#[103, 111]⟩, .string ⟨#[98, 111, 98]⟩, .string ⟨#[115, 105, 110, 103, 108, 101]⟩, .string ⟨#[97, 108, 108]⟩, .string ⟨#[115, 116, 97, 110, 100]⟩] 9))
    (w.heap.size + 1) (some ⟨w.heap.size, 0, none⟩) 1 encString spokenWords := by
  refine .inr ⟨w.heap.size, 0, rfl, by omega, fun i hi j u hu => ?_⟩
  rw [World.cell?_alloc_new]
  have hj : j = 0 := by
    have := (List.getElem?_eq_some_iff.1 hu).1
    simp [encString] at this; omega
  subst hj
  simp only [spokenWords, List.length_cons, List.length_nil] at hi
  match i, hi, hu with
  | 0, _, hu => simpa [spokenWords, encString] using hu
  | 1, _, hu => simpa [spokenWords, encString] using hu
  | 2, _, hu => simpa [spokenWords, encString] using hu
  | 3, _, hu => simpa [spokenWords, encString] using hu
  | 4, _, hu => simpa [spokenWords, encString] using hu

theorem isSpoken_any (s : ByteArray) (w : World) :
    Calls Tryz.prog 138 #[.string s] w fun e w' => e = .returned (.bool (B (spokenP s))) ∧ Below w.heap.size w w' := by
  have Hr := Lib.hid (spoken_rd w)
  go_enter Tryz.func138, Tryz.ntmps138
  go_wp2_with fail
  refine (containsS_any spokenWords _ _ s _ (by simp only [World.size_alloc]; exact Hr.out) (by decide)).mono ?_
  rintro e w' ⟨rfl, n, rfl⟩
  go_wp2
  go_ret
  exact ⟨rfl, below_drewN ((Below.refl _ _).alloc (Nat.le_refl _) _) _⟩
theorem l26Word_any (s : ByteArray) (w : World) :
    Calls Tryz.prog 140 #[.string s] w fun e w' => e = .returned (.bool (B (spokenP s))) ∧ Below w.heap.size w w' := by
  have Hr := Lib.hid (spoken_rd w)
  go_enter Tryz.func140, Tryz.ntmps140
  go_wp2_with fail
  refine (l1HasS_any spokenWords _ _ s _ (by simp only [World.size_alloc]; exact Hr.out) (by decide)).mono ?_
  rintro e w' ⟨rfl, n, rfl⟩
  go_wp2
  go_ret
  exact ⟨rfl, below_drewN ((Below.refl _ _).alloc (Nat.le_refl _) _) _⟩

/-- A good list of spoken words. -/
def spokenLP (l : List Spk) : Prop := l.length ≤ 63 ∧ ∀ (i : Nat) (hi : i < l.length), inB l[i].row 0 3000 ∧ spokenP l[i].word ∧ (∀ (h0 : 0 < i), l[i - 1].row < l[i].row)



set_option maxHeartbeats 3200000 in
theorem goodSpoken_any (l : List Spk) (A : Option Addr) (c : Nat) (w : World) (h : RdL w w.heap.size A 2 Spk.enc l) (hl : l.length ≤ 1048576) :
    Calls Tryz.prog 84 #[.slice A l.length c] w fun e w' => e = .returned (.bool (B (spokenLP l))) ∧ Below w.heap.size w w' := by
  go_enter Tryz.func84, Tryz.ntmps84
  go_wp2
  go_loopw [7] (fun i wr => ∃ k : Nat, k ≤ l.length ∧ i = .int .i64 k ∧ (∀ (j : Nat) (hj : j < l.length), j < k → inB l[j].row 0 3000 ∧ spokenP l[j].word ∧ (∀ (h0 : 0 < j), l[j - 1].row < l[j].row)) ∧ Below w.heap.size w wr) (fun i _ => l.length - (intOf i).toNat)
  case atStart => exact ⟨0, by omega, by rfl, by omega, Below.refl _ _⟩
  case round =>
    obtain ⟨k, hk, rfl, hp, hbl⟩ := hrel
    have Hp := Lib.hid hp
    have Hbl := Lib.hid hbl
    have hgs := hbl.size
    clear hp hbl
    by_cases hlt : k < l.length
    · obtain ⟨g, off, hA, hg, hcell⟩ := h.at hlt
      have r0 := (Hbl.out.cell (p := ⟨g, off + k * 2, none⟩) hg).trans (hcell 0 _ rfl)
      have r1 := (Hbl.out.cell (p := ⟨g, off + k * 2 + 1, none⟩) hg).trans (hcell 1 _ rfl)
      obtain ⟨x, hx⟩ : ∃ x, Hid (l[k] = x) := ⟨l[k], Lib.hid rfl⟩
      rw [hx.out] at r0 r1
      -- the element ahead of it
      have hprev : 0 < k → ∃ p : Spk, Hid (l[k - 1] = p) ∧ wr.cell? ⟨g, off + (k - 1) * 2, none⟩ = some (.int .i64 p.row) := fun h0 => by
        obtain ⟨g', off', hA', hg', hcell'⟩ := h.at (k := k - 1) (by omega)
        rw [hA] at hA'
        simp only [Option.some.injEq, Addr.mk.injEq, and_true] at hA'
        obtain ⟨rfl, rfl⟩ := hA'
        exact ⟨_, Lib.hid rfl, (Hbl.out.cell (p := ⟨g, off + (k - 1) * 2, none⟩) hg).trans (hcell' 0 _ rfl)⟩
      subst hA
      clear hcell h
      have hgw : g < wr.heap.size := Nat.lt_of_lt_of_le hg hgs
      have hfin : ∀ (W W' : World), W = wr.alloc (.cells #[.int .i64 x.row, .string x.word] 108) → Below W.heap.size W W' → Below w.heap.size w W' := fun W W' e hb => by
        subst e
        exact (Hbl.out.alloc hgs _).trans (hb.mono (by simp; omega))
      have Hfin := Lib.hid hfin
      clear hfin
      have hW : ∃ W : World, Hid (wr.alloc (.cells #[.int .i64 x.row, .string x.word] 108) = W) ∧ (∀ y : Later W, y.W.cell? ⟨wr.heap.size, 0, none⟩ = some (.int .i64 x.row)) ∧ (∀ y : Later W, y.W.cell? ⟨wr.heap.size, 1, none⟩ = some (.string x.word)) ∧ (∀ y : Later W, ∀ (o : Nat) (u : Value), wr.cell? ⟨g, o, none⟩ = some u → y.W.cell? ⟨g, o, none⟩ = some u) := by
        refine ⟨_, Lib.hid rfl, fun y => ?_, fun y => ?_, fun y o u hu => ?_⟩
        · exact (y.hb.cell (p := ⟨wr.heap.size, 0, none⟩) (by simp)).trans (by simp [go_sem])
        · exact (y.hb.cell (p := ⟨wr.heap.size, 1, none⟩) (by simp)).trans (by simp [go_sem])
        · refine (y.hb.cell (p := ⟨g, o, none⟩) (by simp; omega)).trans ?_
          rw [World.cell?_alloc_lt _ _ _ hgw]
          exact hu
      obtain ⟨W, hWe, u0, u1, hold⟩ := hW
      by_cases c1 : inB x.row 0 3000
      rotate_left
      · have e1 := B_f c1
        have C1 := Lib.hid c1
        clear c1 hprev hold
        go_wp2
        rw [hWe.out]
        (refine wp_region_later (by kernel_rfl) (by kernel_rfl) ?_; (repeat (go_big_quiet_step ((first | (go_at_call 71; refine Later.same (within_any _ _ _ _)) | (go_at_call 138; refine Later.call (isSpoken_any _ _)))))); refine wpQuiet_nil ?_; intro _ hw'; obtain ⟨y, hw''⟩ := hw'; subst hw'')
        go_wp2
        go_ret
        refine ⟨ret_f (fun h => C1.out ?_), Hfin.out _ _ hWe.out.symm y.hb⟩
        have := (h.2 k hlt).1; rw [hx.out] at this; exact this
      have e1 := B_t c1
      have C1 := Lib.hid c1
      clear c1
      by_cases c2 : spokenP x.word
      rotate_left
      · have e2 := B_f c2
        have C2 := Lib.hid c2
        clear c2 hprev hold
        go_wp2
        rw [hWe.out]
        (refine wp_region_later (by kernel_rfl) (by kernel_rfl) ?_; (repeat (go_big_quiet_step ((first | (go_at_call 71; refine Later.same (within_any _ _ _ _)) | (go_at_call 138; refine Later.call (isSpoken_any _ _)))))); refine wpQuiet_nil ?_; intro _ hw'; obtain ⟨y, hw''⟩ := hw'; subst hw'')
        go_wp2
        go_ret
        refine ⟨ret_f (fun h => C2.out ?_), Hfin.out _ _ hWe.out.symm y.hb⟩
        have := (h.2 k hlt).2.1; rw [hx.out] at this; exact this
      have e2 := B_t c2
      have C2 := Lib.hid c2
      clear c2
      rcases Nat.eq_zero_or_pos k with h0 | hpos
      · subst h0
        simp only [Nat.zero_mul, Nat.add_zero] at r0 r1
        clear hprev hold
        go_wp2
        rw [hWe.out]
        (refine wp_region_later (by kernel_rfl) (by kernel_rfl) ?_; (repeat (go_big_quiet_step ((first | (go_at_call 71; refine Later.same (within_any _ _ _ _)) | (go_at_call 138; refine Later.call (isSpoken_any _ _)))))); refine wpQuiet_nil ?_; intro _ hw'; obtain ⟨y, hw''⟩ := hw'; subst hw'')
        go_wp2
        go_roundw
        case rel =>
          refine ⟨1, by omega, by go_num, fun j hj hj1 => ?_, Hfin.out _ _ hWe.out.symm y.hb⟩
          obtain rfl : j = 0 := by omega
          rw [hx.out]
          exact ⟨C1.out, C2.out, fun h0 => by omega⟩
        case measure => simp [intOf]; omega
      · obtain ⟨p, hp, rp⟩ := hprev hpos
        obtain ⟨m, rfl⟩ : ∃ m, k = m + 1 := ⟨k - 1, by omega⟩
        have u2 := fun y => hold y _ _ rp
        rw [show m + 1 - 1 = m from rfl] at u2
        clear hold hprev rp
        by_cases c3 : p.row < x.row
        · go_wp2
          rw [hWe.out]
          (refine wp_region_later (by kernel_rfl) (by kernel_rfl) ?_; (repeat (go_big_quiet_step ((first | (go_at_call 71; refine Later.same (within_any _ _ _ _)) | (go_at_call 138; refine Later.call (isSpoken_any _ _)))))); refine wpQuiet_nil ?_; intro _ hw'; obtain ⟨y, hw''⟩ := hw'; subst hw'')
          go_wp2
          go_roundw
          case rel =>
            refine ⟨m + 1 + 1, by omega, by go_num, fun j hj hj1 => ?_, Hfin.out _ _ hWe.out.symm y.hb⟩
            rcases Nat.lt_or_eq_of_le (Nat.le_of_lt_succ hj1) with h' | rfl
            · exact Hp.out j hj h'
            · have := hp.out
              simp only [hx.out]
              exact ⟨C1.out, C2.out, fun h0 => by rw [this]; exact c3⟩
          case measure => simp [intOf]; omega
        · go_wp2
          rw [hWe.out]
          (refine wp_region_later (by kernel_rfl) (by kernel_rfl) ?_; (repeat (go_big_quiet_step ((first | (go_at_call 71; refine Later.same (within_any _ _ _ _)) | (go_at_call 138; refine Later.call (isSpoken_any _ _)))))); refine wpQuiet_nil ?_; intro _ hw'; obtain ⟨y, hw''⟩ := hw'; subst hw'')
          go_wp2
          go_ret
          refine ⟨ret_f (fun h => ?_), Hfin.out _ _ hWe.out.symm y.hb⟩
          have := (h.2 (m + 1) hlt).2.2 (by omega)
          rw [hx.out, hp.out] at this
          omega
    · obtain rfl : k = l.length := by omega
      by_cases hn : l.length ≤ 63
      · go_wp2
        go_ret
        exact ⟨by rw [B_t (show spokenLP l from ⟨hn, fun i hi => Hp.out i hi hi⟩)]; simp; omega, Hbl.out⟩
      · go_wp2
        go_ret
        exact ⟨by rw [B_f (show ¬ spokenLP l from fun x => hn x.1)]; simp; omega, Hbl.out⟩
set_option maxHeartbeats 3200000 in
theorem l26Good_any (l : List Spk) (A : Option Addr) (c : Nat) (w : World) (h : RdL w w.heap.size A 2 Spk.enc l) (hl : l.length ≤ 1048576) :
    Calls Tryz.prog 86 #[.slice A l.length c] w fun e w' => e = .returned (.bool (B (spokenLP l))) ∧ Below w.heap.size w w' := by
  go_enter Tryz.func86, Tryz.ntmps86
  go_wp2
  go_loopw [7] (fun i wr => ∃ k : Nat, k ≤ l.length ∧ i = .int .i64 k ∧ (∀ (j : Nat) (hj : j < l.length), j < k → inB l[j].row 0 3000 ∧ spokenP l[j].word ∧ (∀ (h0 : 0 < j), l[j - 1].row < l[j].row)) ∧ Below w.heap.size w wr) (fun i _ => l.length - (intOf i).toNat)
  case atStart => exact ⟨0, by omega, by rfl, by omega, Below.refl _ _⟩
  case round =>
    obtain ⟨k, hk, rfl, hp, hbl⟩ := hrel
    have Hp := Lib.hid hp
    have Hbl := Lib.hid hbl
    have hgs := hbl.size
    clear hp hbl
    by_cases hlt : k < l.length
    · obtain ⟨g, off, hA, hg, hcell⟩ := h.at hlt
      have r0 := (Hbl.out.cell (p := ⟨g, off + k * 2, none⟩) hg).trans (hcell 0 _ rfl)
      have r1 := (Hbl.out.cell (p := ⟨g, off + k * 2 + 1, none⟩) hg).trans (hcell 1 _ rfl)
      obtain ⟨x, hx⟩ : ∃ x, Hid (l[k] = x) := ⟨l[k], Lib.hid rfl⟩
      rw [hx.out] at r0 r1
      -- the element ahead of it
      have hprev : 0 < k → ∃ p : Spk, Hid (l[k - 1] = p) ∧ wr.cell? ⟨g, off + (k - 1) * 2, none⟩ = some (.int .i64 p.row) := fun h0 => by
        obtain ⟨g', off', hA', hg', hcell'⟩ := h.at (k := k - 1) (by omega)
        rw [hA] at hA'
        simp only [Option.some.injEq, Addr.mk.injEq, and_true] at hA'
        obtain ⟨rfl, rfl⟩ := hA'
        exact ⟨_, Lib.hid rfl, (Hbl.out.cell (p := ⟨g, off + (k - 1) * 2, none⟩) hg).trans (hcell' 0 _ rfl)⟩
      subst hA
      clear hcell h
      have hgw : g < wr.heap.size := Nat.lt_of_lt_of_le hg hgs
      have hfin : ∀ (W W' : World), W = wr.alloc (.cells #[.int .i64 x.row, .string x.word] 108) → Below W.heap.size W W' → Below w.heap.size w W' := fun W W' e hb => by
        subst e
        exact (Hbl.out.alloc hgs _).trans (hb.mono (by simp; omega))
      have Hfin := Lib.hid hfin
      clear hfin
      have hW : ∃ W : World, Hid (wr.alloc (.cells #[.int .i64 x.row, .string x.word] 108) = W) ∧ (∀ y : Later W, y.W.cell? ⟨wr.heap.size, 0, none⟩ = some (.int .i64 x.row)) ∧ (∀ y : Later W, y.W.cell? ⟨wr.heap.size, 1, none⟩ = some (.string x.word)) ∧ (∀ y : Later W, ∀ (o : Nat) (u : Value), wr.cell? ⟨g, o, none⟩ = some u → y.W.cell? ⟨g, o, none⟩ = some u) := by
        refine ⟨_, Lib.hid rfl, fun y => ?_, fun y => ?_, fun y o u hu => ?_⟩
        · exact (y.hb.cell (p := ⟨wr.heap.size, 0, none⟩) (by simp)).trans (by simp [go_sem])
        · exact (y.hb.cell (p := ⟨wr.heap.size, 1, none⟩) (by simp)).trans (by simp [go_sem])
        · refine (y.hb.cell (p := ⟨g, o, none⟩) (by simp; omega)).trans ?_
          rw [World.cell?_alloc_lt _ _ _ hgw]
          exact hu
      obtain ⟨W, hWe, u0, u1, hold⟩ := hW
      by_cases c1 : inB x.row 0 3000
      rotate_left
      · have e1 := B_f c1
        have C1 := Lib.hid c1
        clear c1 hprev hold
        go_wp2
        rw [hWe.out]
        (refine wp_region_later (by kernel_rfl) (by kernel_rfl) ?_; (repeat (go_big_quiet_step ((first | (go_at_call 99; refine Later.same (l1In_any _ _ _ _)) | (go_at_call 140; refine Later.call (l26Word_any _ _)))))); refine wpQuiet_nil ?_; intro _ hw'; obtain ⟨y, hw''⟩ := hw'; subst hw'')
        go_wp2
        go_ret
        refine ⟨ret_f (fun h => C1.out ?_), Hfin.out _ _ hWe.out.symm y.hb⟩
        have := (h.2 k hlt).1; rw [hx.out] at this; exact this
      have e1 := B_t c1
      have C1 := Lib.hid c1
      clear c1
      by_cases c2 : spokenP x.word
      rotate_left
      · have e2 := B_f c2
        have C2 := Lib.hid c2
        clear c2 hprev hold
        go_wp2
        rw [hWe.out]
        (refine wp_region_later (by kernel_rfl) (by kernel_rfl) ?_; (repeat (go_big_quiet_step ((first | (go_at_call 99; refine Later.same (l1In_any _ _ _ _)) | (go_at_call 140; refine Later.call (l26Word_any _ _)))))); refine wpQuiet_nil ?_; intro _ hw'; obtain ⟨y, hw''⟩ := hw'; subst hw'')
        go_wp2
        go_ret
        refine ⟨ret_f (fun h => C2.out ?_), Hfin.out _ _ hWe.out.symm y.hb⟩
        have := (h.2 k hlt).2.1; rw [hx.out] at this; exact this
      have e2 := B_t c2
      have C2 := Lib.hid c2
      clear c2
      rcases Nat.eq_zero_or_pos k with h0 | hpos
      · subst h0
        simp only [Nat.zero_mul, Nat.add_zero] at r0 r1
        clear hprev hold
        go_wp2
        rw [hWe.out]
        (refine wp_region_later (by kernel_rfl) (by kernel_rfl) ?_; (repeat (go_big_quiet_step ((first | (go_at_call 99; refine Later.same (l1In_any _ _ _ _)) | (go_at_call 140; refine Later.call (l26Word_any _ _)))))); refine wpQuiet_nil ?_; intro _ hw'; obtain ⟨y, hw''⟩ := hw'; subst hw'')
        go_wp2
        go_roundw
        case rel =>
          refine ⟨1, by omega, by go_num, fun j hj hj1 => ?_, Hfin.out _ _ hWe.out.symm y.hb⟩
          obtain rfl : j = 0 := by omega
          rw [hx.out]
          exact ⟨C1.out, C2.out, fun h0 => by omega⟩
        case measure => simp [intOf]; omega
      · obtain ⟨p, hp, rp⟩ := hprev hpos
        obtain ⟨m, rfl⟩ : ∃ m, k = m + 1 := ⟨k - 1, by omega⟩
        have u2 := fun y => hold y _ _ rp
        rw [show m + 1 - 1 = m from rfl] at u2
        clear hold hprev rp
        by_cases c3 : p.row < x.row
        · go_wp2
          rw [hWe.out]
          (refine wp_region_later (by kernel_rfl) (by kernel_rfl) ?_; (repeat (go_big_quiet_step ((first | (go_at_call 99; refine Later.same (l1In_any _ _ _ _)) | (go_at_call 140; refine Later.call (l26Word_any _ _)))))); refine wpQuiet_nil ?_; intro _ hw'; obtain ⟨y, hw''⟩ := hw'; subst hw'')
          go_wp2
          go_roundw
          case rel =>
            refine ⟨m + 1 + 1, by omega, by go_num, fun j hj hj1 => ?_, Hfin.out _ _ hWe.out.symm y.hb⟩
            rcases Nat.lt_or_eq_of_le (Nat.le_of_lt_succ hj1) with h' | rfl
            · exact Hp.out j hj h'
            · have := hp.out
              simp only [hx.out]
              exact ⟨C1.out, C2.out, fun h0 => by rw [this]; exact c3⟩
          case measure => simp [intOf]; omega
        · go_wp2
          rw [hWe.out]
          (refine wp_region_later (by kernel_rfl) (by kernel_rfl) ?_; (repeat (go_big_quiet_step ((first | (go_at_call 99; refine Later.same (l1In_any _ _ _ _)) | (go_at_call 140; refine Later.call (l26Word_any _ _)))))); refine wpQuiet_nil ?_; intro _ hw'; obtain ⟨y, hw''⟩ := hw'; subst hw'')
          go_wp2
          go_ret
          refine ⟨ret_f (fun h => ?_), Hfin.out _ _ hWe.out.symm y.hb⟩
          have := (h.2 (m + 1) hlt).2.2 (by omega)
          rw [hx.out, hp.out] at this
          omega
    · obtain rfl : k = l.length := by omega
      by_cases hn : l.length ≤ 63
      · go_wp2
        go_ret
        exact ⟨by rw [B_t (show spokenLP l from ⟨hn, fun i hi => Hp.out i hi hi⟩)]; simp; omega, Hbl.out⟩
      · go_wp2
        go_ret
        exact ⟨by rw [B_f (show ¬ spokenLP l from fun x => hn x.1)]; simp; omega, Hbl.out⟩
end Go.Proofs.YtkegbbndmfnolaaGreatDoor
