import Derived.Test.YtkegbbndmfnolaaGreatDoorMBandSlipsL01
import Derived.Test.YtkegbbndmfnolaaGreatDoorMBandSlipsL04
import Derived.Test.YtkegbbndmfnolaaGreatDoorMBandSlipsL02
import Derived.Test.YtkegbbndmfnolaaGreatDoorMBandSlipsL10
import Derived.Test.YtkegbbndmfnolaaGreatDoorMBandSlipsL05
import Derived.Deep.Cut
import Derived.Test.YtkegbbndmfnolaaGreatDoorMBandSlipsL26
import Derived.Test.YtkegbbndmfnolaaGreatDoorMBandSlipsL00
/-
  Contracts: lists of ints and of strings, methods and bands that are the same (the laws' comparisons).
-/
namespace Go.Proofs.YtkegbbndmfnolaaGreatDoor
open Go.RowKit
set_option linter.unusedVariables false
set_option linter.unusedSimpArgs false
set_option maxRecDepth 100000


set_option maxHeartbeats 1600000 in
theorem sameInts_t (l : List Int) (A A' : Option Addr) (c c' : Nat) (w : World) (h : RdL w w.heap.size A 1 encInt l) (h' : RdL w w.heap.size A' 1 encInt l) (hl : l.length ≤ 1048576) :
    Calls Tryz.prog 44 #[.slice A l.length c, .slice A' l.length c'] w fun e w' => e = .returned (.bool true) ∧ ∃ n, w' = w.drewN n := by
  have H := Lib.hid h
  have H' := Lib.hid h'
  clear h h'
  go_enter Tryz.func44, Tryz.ntmps44
  go_wp2
  go_loopw [13] (fun i wr => ∃ k : Nat, k ≤ l.length ∧ i = .int .i64 k ∧ ∃ n, wr = w.drewN n) (fun i _ => l.length - (intOf i).toNat)
  case atStart => exact ⟨0, by omega, by rfl, 0, rfl⟩
  case round =>
    obtain ⟨k, hk, rfl, hdr⟩ := hrel
    have Hdr := Lib.hid hdr
    clear hdr
    by_cases hlt : k < l.length
    · obtain ⟨g, off, hA, hg, hcell⟩ := H.out.at hlt
      obtain ⟨g', off', hA', hg', hcell'⟩ := H'.out.at hlt
      subst hA hA'
      have r0 : wr.cell? ⟨g, off + k, none⟩ = some (.int .i64 l[k]) := by obtain ⟨n, e⟩ := Hdr.out; rw [e]; have := hcell 0 _ rfl; rw [Nat.mul_one] at this; exact this
      have q0 : wr.cell? ⟨g', off' + k, none⟩ = some (.int .i64 l[k]) := by obtain ⟨n, e⟩ := Hdr.out; rw [e]; have := hcell' 0 _ rfl; rw [Nat.mul_one] at this; exact this
      clear hcell hcell'
      obtain ⟨x, hx⟩ : ∃ x, Hid (l[k] = x) := ⟨_, Lib.hid rfl⟩
      rw [hx.out] at r0 q0
      go_wp2
      go_quiet (fail)
      go_wp2
      go_roundw
      case rel => exact ⟨k + 1, by omega, by go_num, by obtain ⟨n, e⟩ := Hdr.out; rw [e, drew2]; exact ⟨_, rfl⟩⟩
      case measure => simp [intOf]; omega
    · go_wp2
      go_ret
      exact ⟨rfl, Hdr.out⟩
set_option maxHeartbeats 1600000 in
theorem l1SameS_t (l : List ByteArray) (A A' : Option Addr) (c c' : Nat) (w : World) (h : RdL w w.heap.size A 1 encString l) (h' : RdL w w.heap.size A' 1 encString l) (hl : l.length ≤ 1048576) :
    Calls Tryz.prog 125 #[.slice A l.length c, .slice A' l.length c'] w fun e w' => e = .returned (.bool true) ∧ ∃ n, w' = w.drewN n := by
  have H := Lib.hid h
  have H' := Lib.hid h'
  clear h h'
  go_enter Tryz.func125, Tryz.ntmps125
  go_wp2
  go_loopw [13] (fun i wr => ∃ k : Nat, k ≤ l.length ∧ i = .int .i64 k ∧ ∃ n, wr = w.drewN n) (fun i _ => l.length - (intOf i).toNat)
  case atStart => exact ⟨0, by omega, by rfl, 0, rfl⟩
  case round =>
    obtain ⟨k, hk, rfl, hdr⟩ := hrel
    have Hdr := Lib.hid hdr
    clear hdr
    by_cases hlt : k < l.length
    · obtain ⟨g, off, hA, hg, hcell⟩ := H.out.at hlt
      obtain ⟨g', off', hA', hg', hcell'⟩ := H'.out.at hlt
      subst hA hA'
      have r0 : wr.cell? ⟨g, off + k, none⟩ = some (.string l[k]) := by obtain ⟨n, e⟩ := Hdr.out; rw [e]; have := hcell 0 _ rfl; rw [Nat.mul_one] at this; exact this
      have q0 : wr.cell? ⟨g', off' + k, none⟩ = some (.string l[k]) := by obtain ⟨n, e⟩ := Hdr.out; rw [e]; have := hcell' 0 _ rfl; rw [Nat.mul_one] at this; exact this
      clear hcell hcell'
      obtain ⟨x, hx⟩ : ∃ x, Hid (l[k] = x) := ⟨_, Lib.hid rfl⟩
      rw [hx.out] at r0 q0
      go_wp2
      go_quiet (fail)
      go_wp2
      go_roundw
      case rel => exact ⟨k + 1, by omega, by go_num, by obtain ⟨n, e⟩ := Hdr.out; rw [e, drew2]; exact ⟨_, rfl⟩⟩
      case measure => simp [intOf]; omega
    · go_wp2
      go_ret
      exact ⟨rfl, Hdr.out⟩


set_option maxHeartbeats 1600000 in
theorem sameMethod_t (nm : ByteArray) (st : Int) (x : List ByteArray) (A A' : Option Addr) (c c' : Nat) (w : World) (h : RdL w w.heap.size A 1 encString x) (h' : RdL w w.heap.size A' 1 encString x) (hl : x.length ≤ 1048576) :
    Calls Tryz.prog 69 #[.agg #[Value.string nm, .int .i64 st, .slice A x.length c], .agg #[Value.string nm, .int .i64 st, .slice A' x.length c']] w fun e w' => e = .returned (.bool true) ∧ Below w.heap.size w w' := by
  have hB : Hid (Below w.heap.size w ((w.alloc (.cells #[Value.string nm, .int .i64 st, .slice A x.length c] 26)).alloc (.cells #[Value.string nm, .int .i64 st, .slice A' x.length c'] 26))) := Lib.hid (((Below.refl _ _).alloc (Nat.le_refl _) _).alloc (by simp) _)
  have H := Lib.hid h
  have H' := Lib.hid h'
  clear h h'
  go_enter Tryz.func69, Tryz.ntmps69
  go_wp2_with (first | (go_at_call 125; refine (l1SameS_t x A A' c c' _ ((H.out.below hB.out (Nat.le_refl _)).more hB.out.size) ((H'.out.below hB.out (Nat.le_refl _)).more hB.out.size) hl).mono ?_; rintro e w1 ⟨rfl, k, rfl⟩))
  go_ret
  exact ⟨rfl, (below_drewN hB.out _)⟩


set_option maxHeartbeats 3200000 in
theorem sameBand_t (d : Bd) (A1 : Option Addr) (c1 : Nat) (A3 : Option Addr) (c3 : Nat) (B1 : Option Addr) (e1 : Nat) (B3 : Option Addr) (e3 : Nat) (w : World) (h1 : RdL w w.heap.size A1 1 encString d.x) (h2 : RdL w w.heap.size B1 1 encString d.x) (h3 : RdL w w.heap.size A3 2 Rgr.enc d.rx) (h4 : RdL w w.heap.size B3 2 Rgr.enc d.rx) (hl : d.x.length ≤ 1048576) (hrl : d.rx.length ≤ 1048576) :
    Calls Tryz.prog 15 #[.agg #[Value.string d.name, .int .i64 d.stage, .slice A1 d.x.length c1, .string d.bob, .string d.sing, .int .i64 d.step, .string d.call, .string d.tru, .slice A3 d.rx.length c3], .agg #[Value.string d.name, .int .i64 d.stage, .slice B1 d.x.length e1, .string d.bob, .string d.sing, .int .i64 d.step, .string d.call, .string d.tru, .slice B3 d.rx.length e3]] w fun e w' => e = .returned (.bool true) ∧ Below w.heap.size w w' := by
  obtain ⟨W, hWe, hWs, hWb, hA, hB⟩ : ∃ W : World, Hid (((w.alloc (.cells #[Value.string d.name, .int .i64 d.stage, .slice A1 d.x.length c1, .string d.bob, .string d.sing, .int .i64 d.step, .string d.call, .string d.tru, .slice A3 d.rx.length c3] 36)).alloc (.cells #[Value.string d.name, .int .i64 d.stage, .slice B1 d.x.length e1, .string d.bob, .string d.sing, .int .i64 d.step, .string d.call, .string d.tru, .slice B3 d.rx.length e3] 36)) = W) ∧ Hid (W.heap.size = w.heap.size + 2) ∧ Hid (Below w.heap.size w W) ∧ Hid (Cells W w.heap.size 9 (fun i => (#[Value.string d.name, .int .i64 d.stage, .slice A1 d.x.length c1, .string d.bob, .string d.sing, .int .i64 d.step, .string d.call, .string d.tru, .slice A3 d.rx.length c3] : Array Value).getD i undef)) ∧ Hid (Cells W (w.heap.size + 1) 9 (fun i => (#[Value.string d.name, .int .i64 d.stage, .slice B1 d.x.length e1, .string d.bob, .string d.sing, .int .i64 d.step, .string d.call, .string d.tru, .slice B3 d.rx.length e3] : Array Value).getD i undef)) := by
    have z1 : w.heap.size + 1 = (w.alloc (.cells #[Value.string d.name, .int .i64 d.stage, .slice A1 d.x.length c1, .string d.bob, .string d.sing, .int .i64 d.step, .string d.call, .string d.tru, .slice A3 d.rx.length c3] 36)).heap.size := by simp
    refine ⟨_, Lib.hid rfl, Lib.hid (by simp), Lib.hid (((Below.refl _ _).alloc (Nat.le_refl _) _).alloc (by simp) _), Lib.hid ?_, Lib.hid ?_⟩
    · exact (Cells.newD _ #[Value.string d.name, .int .i64 d.stage, .slice A1 d.x.length c1, .string d.bob, .string d.sing, .int .i64 d.step, .string d.call, .string d.tru, .slice A3 d.rx.length c3] _).alloc _
    · rw [z1]; exact Cells.newD _ #[Value.string d.name, .int .i64 d.stage, .slice B1 d.x.length e1, .string d.bob, .string d.sing, .int .i64 d.step, .string d.call, .string d.tru, .slice B3 d.rx.length e3] _
  have hWs1 : w.heap.size + 2 = W.heap.size := hWs.out.symm
  have HM := Lib.hid (fun (W' : World) (hb : Below W.heap.size W W') => sameMethod_t d.name d.stage d.x A1 B1 c1 e1 W' ((h1.below (hWb.out.trans (hb.mono hWb.out.size)) (Nat.le_refl _)).more (Nat.le_trans hWb.out.size hb.size)) ((h2.below (hWb.out.trans (hb.mono hWb.out.size)) (Nat.le_refl _)).more (Nat.le_trans hWb.out.size hb.size)) hl)
  have H3 := Lib.hid ((h3.below hWb.out (Nat.le_refl _)).more hWb.out.size)
  have H4 := Lib.hid ((h4.below hWb.out (Nat.le_refl _)).more hWb.out.size)
  clear h1 h2 h3 h4
  have u0 := hA.out.cell (i := 0) (by omega)
  have u1 := hA.out.cell (i := 1) (by omega)
  have u2 := hA.out.cell (i := 2) (by omega)
  have u3 := hA.out.cell (i := 3) (by omega)
  have u4 := hA.out.cell (i := 4) (by omega)
  have u5 := hA.out.cell (i := 5) (by omega)
  have u6 := hA.out.cell (i := 6) (by omega)
  have u7 := hA.out.cell (i := 7) (by omega)
  have u8 := hA.out.cell (i := 8) (by omega)
  have v0 := hB.out.cell (i := 0) (by omega)
  have v1 := hB.out.cell (i := 1) (by omega)
  have v2 := hB.out.cell (i := 2) (by omega)
  have v3 := hB.out.cell (i := 3) (by omega)
  have v4 := hB.out.cell (i := 4) (by omega)
  have v5 := hB.out.cell (i := 5) (by omega)
  have v6 := hB.out.cell (i := 6) (by omega)
  have v7 := hB.out.cell (i := 7) (by omega)
  have v8 := hB.out.cell (i := 8) (by omega)
  go_enter Tryz.func15, Tryz.ntmps15
  go_wp2_with fail
  rw [hWe.out]
  clear hWe
  go_upto_region 4 with (first | (go_at_call 69; refine (HM.out W (Below.refl _ _)).mono ?_; rintro e w1 ⟨rfl, hb1⟩; have HB1 := Lib.hid hb1; have hz1 := hb1.size; have hA1 := hA.out.later hb1; have hB1 := hB.out.later hb1; clear u0 u1 u2 u3 u4 u5 u6 u7 u8 v0 v1 v2 v3 v4 v5 v6 v7 v8; have u0 := hA1.cell (i := 0) (by omega); have u1 := hA1.cell (i := 1) (by omega); have u2 := hA1.cell (i := 2) (by omega); have u3 := hA1.cell (i := 3) (by omega); have u4 := hA1.cell (i := 4) (by omega); have u5 := hA1.cell (i := 5) (by omega); have u6 := hA1.cell (i := 6) (by omega); have u7 := hA1.cell (i := 7) (by omega); have u8 := hA1.cell (i := 8) (by omega); have v0 := hB1.cell (i := 0) (by omega); have v1 := hB1.cell (i := 1) (by omega); have v2 := hB1.cell (i := 2) (by omega); have v3 := hB1.cell (i := 3) (by omega); have v4 := hB1.cell (i := 4) (by omega); have v5 := hB1.cell (i := 5) (by omega); have v6 := hB1.cell (i := 6) (by omega); have v7 := hB1.cell (i := 7) (by omega); have v8 := hB1.cell (i := 8) (by omega); clear hb1 hA1 hB1))
  have hZA := Lib.hid (hA.out.later HB1.out)
  have hZB := Lib.hid (hB.out.later HB1.out)
  have HR3 := Lib.hid ((H3.out.below HB1.out (Nat.le_refl _)).more hz1)
  have HR4 := Lib.hid ((H4.out.below HB1.out (Nat.le_refl _)).more hz1)
  go_loopw [52] (fun i wr => ∃ k : Nat, k ≤ d.rx.length ∧ i = .int .i64 k ∧ ∃ n, wr = w1.drewN n) (fun i _ => d.rx.length - (intOf i).toNat)
  case atStart => exact ⟨0, by omega, by rfl, 0, rfl⟩
  case round =>
    obtain ⟨k, hk, rfl, hdr⟩ := hrel
    have Hdr := Lib.hid hdr
    clear hdr
    by_cases hlt : k < d.rx.length
    · obtain ⟨g, off, hAA, hg, hcell⟩ := HR3.out.at hlt
      obtain ⟨g', off', hAA', hg', hcell'⟩ := HR4.out.at hlt
      subst hAA hAA'
      have r0 : wr.cell? ⟨g, off + k * 2, none⟩ = some (.int .i64 d.rx[k].place) := by obtain ⟨n, e⟩ := Hdr.out; rw [e]; exact hcell 0 _ rfl
      have r1 : wr.cell? ⟨g, off + k * 2 + 1, none⟩ = some (.bool d.rx[k].deaf) := by obtain ⟨n, e⟩ := Hdr.out; rw [e]; exact hcell 1 _ rfl
      have q0 : wr.cell? ⟨g', off' + k * 2, none⟩ = some (.int .i64 d.rx[k].place) := by obtain ⟨n, e⟩ := Hdr.out; rw [e]; exact hcell' 0 _ rfl
      have q1 : wr.cell? ⟨g', off' + k * 2 + 1, none⟩ = some (.bool d.rx[k].deaf) := by obtain ⟨n, e⟩ := Hdr.out; rw [e]; exact hcell' 1 _ rfl
      have s8 : wr.cell? ⟨w.heap.size, 8, none⟩ = some (.slice (some ⟨g, off, none⟩) d.rx.length c3) := by obtain ⟨n, e⟩ := Hdr.out; rw [e]; exact hZA.out.cell (i := 8) (by omega)
      have t8 : wr.cell? ⟨w.heap.size + 1, 8, none⟩ = some (.slice (some ⟨g', off', none⟩) d.rx.length e3) := by obtain ⟨n, e⟩ := Hdr.out; rw [e]; exact hZB.out.cell (i := 8) (by omega)
      clear hcell hcell'
      obtain ⟨⟨pl, df⟩, hx⟩ : ∃ x, Hid (d.rx[k] = x) := ⟨_, Lib.hid rfl⟩
      rw [hx.out] at r0 r1 q0 q1
      simp only at r0 r1 q0 q1
      go_wp2
      go_quiet (fail)
      go_wp2
      go_roundw
      case rel => exact ⟨k + 1, by omega, by go_num, by obtain ⟨n, e⟩ := Hdr.out; rw [e, drew2]; exact ⟨_, rfl⟩⟩
      case measure => simp [intOf]; omega
    · obtain ⟨n, hn⟩ := Hdr.out
      go_wp2
      go_ret
      exact ⟨rfl, by first | exact below_drewN (hWb.out.trans (HB1.out.mono hWb.out.size)) _ | (rw [hn]; exact below_drewN (hWb.out.trans (HB1.out.mono hWb.out.size)) _)⟩
end Go.Proofs.YtkegbbndmfnolaaGreatDoor

/-
  The row of any good band is a good row (plain).
-/
namespace Go.Proofs.YtkegbbndmfnolaaGreatDoor
open Go.RowKit
set_option linter.unusedVariables false
set_option linter.unusedSimpArgs false

/-- The bells at a place. -/
def plI (l : List Rgr) (p : Int) (k : Nat) : List Nat := (List.range k).filter (fun i => decide ((l.getD i ⟨0, false⟩).place = p))
def plO (l : List Rgr) : Nat → List Nat
  | 0 => []
  | p + 1 => plO l p ++ plI l ((p : Int) + 1) l.length
def digL (L : List Nat) : List Int := L.map fun (i : Nat) => (49 : Int) + (i : Int)
theorem digL_app (a b : List Nat) : digL (a ++ b) = digL a ++ digL b := by unfold digL; rw [List.map_append]
theorem numS_dig {k : Nat} (h : k < 9) : numS (k + 1) = mkS (digL [k]) := by
  rw [numS_small (by omega)]
  show (⟨#[UInt8.ofNat (48 + (k + 1))]⟩ : ByteArray) = ⟨[UInt8.ofNat ((49 : Int) + (k : Int)).toNat].toArray⟩
  rw [show ((49 : Int) + (k : Int)).toNat = 48 + (k + 1) by omega]
theorem rbI_list {l : List Rgr} (h8 : l.length ≤ 8) (p : Int) (M : List Int) : ∀ k, k ≤ l.length → rbI l p (mkS M) k = mkS (M ++ digL (plI l p k)) := by
  intro k
  induction k with
  | zero => intro _; simp [rbI, plI, digL]
  | succ k ih =>
    intro hk
    have ih := ih (by omega)
    have hg : (l.getD k ⟨0, false⟩) = l[k] := by rw [List.getD_eq_getElem?_getD, List.getElem?_eq_getElem (by omega)]; rfl
    by_cases hp : l[k].place = p
    · rw [rbI_y (by omega) hp, ih, numS_dig (by omega), mkS_app]
      unfold plI
      rw [List.range_succ, List.filter_append, digL_app, List.append_assoc]
      simp only [List.filter_cons, List.filter_nil, hg, hp, decide_true, if_true]
    · rw [rbI_n (by omega) hp, ih]
      unfold plI
      rw [List.range_succ, List.filter_append, digL_app]
      simp only [List.filter_cons, List.filter_nil, hg, hp, decide_false, Bool.false_eq_true, if_false]
      simp [digL]
theorem rbO_list {l : List Rgr} (h8 : l.length ≤ 8) : ∀ p, rbO l p = mkS (digL (plO l p)) := by
  intro p
  induction p with
  | zero => rfl
  | succ p ih =>
    simp only [rbO, plO]
    rw [ih, rbI_list h8 _ _ _ (Nat.le_refl _), digL_app]
theorem plI_mem {l : List Rgr} {p : Int} {k i : Nat} : i ∈ plI l p k ↔ i < k ∧ (l.getD i ⟨0, false⟩).place = p := by
  unfold plI; simp [List.mem_filter]
theorem plO_mem {l : List Rgr} {i : Nat} : ∀ p, i ∈ plO l p ↔ i < l.length ∧ 1 ≤ (l.getD i ⟨0, false⟩).place ∧ (l.getD i ⟨0, false⟩).place ≤ (p : Int) := by
  intro p
  induction p with
  | zero => simp only [plO, List.not_mem_nil, false_iff]; intro h; have := h.2; omega
  | succ p ih =>
    simp only [plO, List.mem_append, ih, plI_mem]
    omega
theorem plO_nodup {l : List Rgr} : ∀ p, (plO l p).Nodup := by
  intro p
  induction p with
  | zero => exact List.nodup_nil
  | succ p ih =>
    simp only [plO]
    refine List.nodup_append.2 ⟨ih, List.Pairwise.filter _ List.nodup_range, ?_⟩
    intro a ha b hb e
    subst e
    have h1 := (plO_mem p).1 ha
    have h2 := plI_mem.1 hb
    omega
theorem plO_len {l : List Rgr} (h : ∀ (i : Nat) (hi : i < l.length), 1 ≤ l[i].place ∧ l[i].place ≤ (l.length : Int)) : (plO l l.length).length = l.length := by
  have hp : List.Perm (plO l l.length) (List.range l.length) := (List.perm_ext_iff_of_nodup (plO_nodup _) List.nodup_range).2 (fun i => by
    rw [plO_mem, List.mem_range]
    constructor
    · intro k; exact k.1
    · intro k
      have := h i k
      rw [List.getD_eq_getElem?_getD, List.getElem?_eq_getElem k]
      exact ⟨k, this⟩)
  rw [hp.length_eq, List.length_range]
/-- A good band's row is a row. -/
theorem rbO_row {b : Bnd} (hp : bandP b) : isRow (rbO b.rx b.rx.length) := by
  have hst := hp.1.1.2.stage
  have h1 : 3 ≤ b.m.stage := hst.1
  have h2 : b.m.stage ≤ 8 := hst.2
  have hl : (b.rx.length : Int) = b.m.stage := hp.2.2.2.2.1
  have hpl := hp.2.2.2.2.2
  rw [rbO_list (by omega)]
  have hlen := plO_len (l := b.rx) (fun i hi => by have := hpl i hi; rw [hl]; exact this)
  have hnd := plO_nodup (l := b.rx) b.rx.length
  have hmem : ∀ i ∈ plO b.rx b.rx.length, i < b.rx.length := fun i hi => ((plO_mem _).1 hi).1
  revert hlen hnd hmem
  generalize plO b.rx b.rx.length = L
  intro hlen hnd hmem
  have hsz : (mkS (digL L)).size = L.length := by rw [size_mkS]; unfold digL; rw [List.length_map]
  have hb : ∀ (i : Nat) (hi : i < L.length), bat (mkS (digL L)) i = 49 + (L[i] : Int) := by
    intro i hi
    have hm := hmem L[i] (List.getElem_mem hi)
    have hd : i < (digL L).length := by unfold digL; rw [List.length_map]; exact hi
    have hv : (digL L)[i] = 49 + (L[i] : Int) := List.getElem_map ..
    rw [bat_mkS _ _ hd (by rw [hv]; omega) (by rw [hv]; omega), hv]
  refine ⟨by rw [hsz]; omega, by rw [hsz]; omega, fun i hi => ?_, fun i j hij hj => ?_⟩
  · rw [hsz] at hi
    rw [hb i hi, hsz]
    have := hmem L[i] (List.getElem_mem hi)
    omega
  · rw [hsz] at hj
    rw [hb i (by omega), hb j hj]
    have := List.pairwise_iff_getElem.1 hnd i j (by omega) hj hij
    omega
end Go.Proofs.YtkegbbndmfnolaaGreatDoor

/-
  The laws' test of the drawn bytes' length.
-/
namespace Go.Proofs.YtkegbbndmfnolaaGreatDoor
open Go.RowKit
set_option linter.unusedVariables false
set_option linter.unusedSimpArgs false
set_option maxRecDepth 100000

theorem bigB_any (n m : Nat) (A A' : Option Addr) (c c' : Nat) (w : World) (hn : n ≤ 9223372036854775807) (hm : m ≤ 9223372036854775807) :
    Calls Tryz.prog 6 #[.slice A n c, .slice A' m c'] w fun e w' => e = .returned (.bool (B (1048576 < n + m))) ∧ w = w' := by
  by_cases h1 : 1048576 < n
  · have d1 : decide ((1048576 : Int) < (n : Int)) = true := by simp; omega
    go_enter Tryz.func6, Tryz.ntmps6
    go_wp2
    go_ret
    exact ⟨ret_t (by omega), rfl⟩
  · have d1 : decide ((1048576 : Int) < (n : Int)) = false := by simp; omega
    by_cases h2 : 1048576 < n + m
    · have d2 : decide ((1048576 : Int) - (n : Int) < (m : Int)) = true := by simp; omega
      go_enter Tryz.func6, Tryz.ntmps6
      go_wp2
      go_ret
      exact ⟨ret_t h2, rfl⟩
    · have d2 : decide ((1048576 : Int) - (n : Int) < (m : Int)) = false := by simp; omega
      go_enter Tryz.func6, Tryz.ntmps6
      go_wp2
      go_ret
      exact ⟨ret_f h2, rfl⟩
end Go.Proofs.YtkegbbndmfnolaaGreatDoor
