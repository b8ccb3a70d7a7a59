import Derived.Test.YtkegbbndmfnolaaGreatMSpokenL27
import Derived.Test.YtkegbbndmfnolaaGreatMSpokenL06
import Derived.Test.YtkegbbndmfnolaaGreatMSpokenL04
import Derived.Test.YtkegbbndmfnolaaGreatRows
import Derived.Test.YtkegbbndmfnolaaGreatMSpokenL01
import Derived.StillTailTactics
import Derived.Deep.RegionHeld3
import Derived.Test.YtkegbbndmfnolaaGreatMSpokenL29
import Derived.Test.YtkegbbndmfnolaaGreatMSpokenL20
/-
  Contracts: two lists of spoken words that are the same (the laws' comparison).
-/
namespace Go.Proofs.YtkegbbndmfnolaaGreat
open Go.RowKit
set_option linter.unusedVariables false
set_option linter.unusedSimpArgs false
set_option maxRecDepth 100000

section
attribute [-go_sem] run_eql_struct run_neq_struct


set_option maxHeartbeats 3200000 in
theorem qSameSaid_any (a l : List Spk) (A A' : Option Addr) (c c' : Nat) (w : World) (ha : RdL w w.heap.size A 2 Spk.enc a) (hh : RdL w w.heap.size A' 2 Spk.enc l) (h1 : a.length ≤ 1048576) (h2 : l.length ≤ 1048576) :
    Calls Tryz.prog 24 #[.slice A a.length c, .slice A' l.length c'] w fun e w' => e = .returned (.bool (B (a = l))) ∧ Below w.heap.size w w' := by
  have Ha := Lib.hid ha
  have Hl := Lib.hid hh
  clear ha hh
  by_cases hlen : a.length = l.length
  rotate_left
  · have d1 : ((a.length : Int) != (l.length : Int)) = true := by simp; omega
    have d2 : ((a.length : Int) == (l.length : Int)) = false := by simp; omega
    have H := Lib.hid hlen
    clear hlen
    go_enter Tryz.func24, Tryz.ntmps24
    go_wp2
    go_ret
    exact ⟨ret_f (fun x => H.out (by rw [x])), Below.refl _ _⟩
  have d1 : ((a.length : Int) != (l.length : Int)) = false := by simp; omega
  have d2 : ((a.length : Int) == (l.length : Int)) = true := by simp; omega
  have H := Lib.hid hlen
  clear hlen
  go_enter Tryz.func24, Tryz.ntmps24
  go_wp2
  go_loopw [13] (fun j wr => ∃ k : Nat, k ≤ a.length ∧ j = .int .i64 k ∧ (∀ j, j < k → a[j]? = l[j]?) ∧ Below w.heap.size w wr) (fun j _ => a.length - (intOf j).toNat)
  case atStart => exact ⟨0, by omega, by rfl, fun j hj => by omega, Below.refl _ _⟩
  case round =>
    obtain ⟨k, hk, rfl, hq, hbl⟩ := hrel
    have Hq := Lib.hid hq
    have Hb0 := Lib.hid hbl
    have hg0 := hbl.size
    clear hq hbl
    by_cases hla : k < a.length
    rotate_left
    · have hE : Hid (a = l) := Lib.hid (by
        apply List.ext_getElem?
        intro j
        by_cases hj : j < a.length
        · exact Hq.out j (by omega)
        · rw [List.getElem?_eq_none (by omega), List.getElem?_eq_none (by have := H.out; omega)])
      go_wp2
      go_ret
      exact ⟨ret_t hE.out, Hb0.out⟩
    have hll : k < l.length := by have := H.out; omega
    obtain ⟨ga, oa, hAa, hga, hca⟩ := Ha.out.at hla
    subst hAa
    have a0 := (Hb0.out.cell (p := ⟨ga, oa + k * 2, none⟩) hga).trans (hca 0 _ rfl)
    have a1 := (Hb0.out.cell (p := ⟨ga, oa + k * 2 + 1, none⟩) hga).trans (hca 1 _ rfl)
    obtain ⟨x, hx⟩ : ∃ x, Hid (a[k] = x) := ⟨_, Lib.hid rfl⟩
    rw [hx.out] at a0 a1
    obtain ⟨gl, ol, hAl, hgl, hcl⟩ := Hl.out.at hll
    subst hAl
    have l0 := (Hb0.out.cell (p := ⟨gl, ol + k * 2, none⟩) hgl).trans (hcl 0 _ rfl)
    have l1 := (Hb0.out.cell (p := ⟨gl, ol + k * 2 + 1, none⟩) hgl).trans (hcl 1 _ rfl)
    obtain ⟨y, hy⟩ : ∃ y, Hid (l[k] = y) := ⟨_, Lib.hid rfl⟩
    rw [hy.out] at l0 l1
    clear hca hcl
    by_cases hxy : x = y
    · have hn := neSpk_f hxy
      have hk1 : Hid (∀ j, j < k + 1 → a[j]? = l[j]?) := Lib.hid (fun j hj => by
        rcases Nat.lt_or_eq_of_le (Nat.le_of_lt_succ hj) with h' | rfl
        · exact Hq.out j h'
        · rw [List.getElem?_eq_getElem hla, List.getElem?_eq_getElem hll, hx.out, hy.out, hxy])
      clear hxy
      go_wp2
      go_quiet (fail)
      go_wp2
      go_roundw
      case rel => exact ⟨k + 1, by omega, by go_num, hk1.out, below_drewN Hb0.out _⟩
      case measure => simp [intOf]; omega
    · have hn := neSpk_t hxy
      have hne : Hid (¬ a = l) := Lib.hid (fun e => by subst e; exact hxy (hx.out.symm.trans hy.out))
      clear hxy
      go_wp2
      go_quiet (fail)
      go_wp2
      go_ret
      exact ⟨ret_f hne.out, below_drewN Hb0.out _⟩
theorem qSameSaid_t (l : List Spk) (A A' : Option Addr) (c c' : Nat) (w : World) (h : RdL w w.heap.size A 2 Spk.enc l) (h' : RdL w w.heap.size A' 2 Spk.enc l) (hl : l.length ≤ 1048576) :
    Calls Tryz.prog 24 #[.slice A l.length c, .slice A' l.length c'] w fun e w' => e = .returned (.bool true) ∧ Below w.heap.size w w' := by
  have := qSameSaid_any l l A A' c c' w h h' hl hl
  rw [B_t rfl] at this
  exact this
end
end Go.Proofs.YtkegbbndmfnolaaGreat

/-
  Contracts: lists that are the same (the laws' comparisons).
-/
namespace Go.Proofs.YtkegbbndmfnolaaGreat
open Go.RowKit
set_option linter.unusedVariables false
set_option linter.unusedSimpArgs false
set_option maxRecDepth 100000

end Go.Proofs.YtkegbbndmfnolaaGreat

/-
  Contracts of the helper functions that the laws use for lists of Slip.
-/
namespace Go.Proofs.YtkegbbndmfnolaaGreat
open Go.RowKit Go.ChangeShapes Go.WideShapes
set_option linter.unusedVariables false
set_option linter.unusedSimpArgs false
set_option maxRecDepth 100000


structure Slp where
  row : Int
  a : Int
  b : Int

def Slp.enc (x : Slp) : List Value := [.int .i64 x.row, .int .i64 x.a, .int .i64 x.b]
def Slip_small (lim : Int) (x : Slp) : Prop := True
/-- What the marks make of a list of so many elements. -/
def markSlipL (m q : Nat) : List Slp := (List.range m).map fun i : Nat => (⟨((q + i * 3 : Nat) : Int), ((q + i * 3 + 1 : Nat) : Int), ((q + i * 3 + 2 : Nat) : Int)⟩ : Slp)
end Go.Proofs.YtkegbbndmfnolaaGreat
/-
  Contracts: lists of strings and of slips that are the same (the laws' comparisons).
-/
namespace Go.Proofs.YtkegbbndmfnolaaGreat
open Go.RowKit
set_option linter.unusedVariables false
set_option linter.unusedSimpArgs false
set_option maxRecDepth 100000
set_option maxHeartbeats 1600000 in
theorem qSameS_t (l : List ByteArray) (A A' : Option Addr) (c c' : Nat) (w : World) (h : RdL w w.heap.size A 1 encString l) (h' : RdL w w.heap.size A' 1 encString l) (hl : l.length ≤ 1048576) :
    Calls Tryz.prog 25 #[.slice A l.length c, .slice A' l.length c'] w fun e w' => e = .returned (.bool true) ∧ ∃ n, w' = w.drewN n := by
  have H := Lib.hid h
  have H' := Lib.hid h'
  clear h h'
  go_enter Tryz.func25, Tryz.ntmps25
  go_wp2
  go_loopw [13] (fun i wr => ∃ k : Nat, k ≤ l.length ∧ i = .int .i64 k ∧ ∃ n, wr = w.drewN n) (fun i _ => l.length - (intOf i).toNat)
  case atStart => exact ⟨0, by omega, by rfl, 0, rfl⟩
  case round =>
    obtain ⟨k, hk, rfl, hdr⟩ := hrel
    have Hdr := Lib.hid hdr
    clear hdr
    by_cases hlt : k < l.length
    · obtain ⟨g, off, hA, hg, hcell⟩ := H.out.at hlt
      obtain ⟨g', off', hA', hg', hcell'⟩ := H'.out.at hlt
      subst hA hA'
      have r0 : wr.cell? ⟨g, off + k, none⟩ = some (.string l[k]) := by obtain ⟨n, e⟩ := Hdr.out; rw [e]; have := hcell 0 _ rfl; rw [Nat.mul_one] at this; exact this
      have q0 : wr.cell? ⟨g', off' + k, none⟩ = some (.string l[k]) := by obtain ⟨n, e⟩ := Hdr.out; rw [e]; have := hcell' 0 _ rfl; rw [Nat.mul_one] at this; exact this
      clear hcell hcell'
      obtain ⟨x, hx⟩ : ∃ x, Hid (l[k] = x) := ⟨_, Lib.hid rfl⟩
      rw [hx.out] at r0 q0
      go_wp2
      go_quiet (fail)
      go_wp2
      go_roundw
      case rel => exact ⟨k + 1, by omega, by go_num, by obtain ⟨n, e⟩ := Hdr.out; rw [e, drew2]; exact ⟨_, rfl⟩⟩
      case measure => simp [intOf]; omega
    · go_wp2
      go_ret
      exact ⟨rfl, Hdr.out⟩
end Go.Proofs.YtkegbbndmfnolaaGreat

/-
  TouchRows of the reference where its touch is good and not too long; rounds.
-/
namespace Go.Proofs.YtkegbbndmfnolaaGreat
open Go.RowKit
set_option linter.unusedVariables false
set_option linter.unusedSimpArgs false
set_option maxRecDepth 100000



theorem roundsOf_t (n : Int) (w : World) (h : inB n 3 8) : Calls Tryz.prog 29 #[.int .i64 n] w fun e w' => e = .returned (.tuple #[.string (roundsS n), .bool true]) ∧ w = w' := by
  have e1 := B_t h
  obtain ⟨h1, h2⟩ := h
  go_enter Tryz.func29, Tryz.ntmps29
  go_wp2_with (first | (go_at_call 66; refine (l1In_any _ _ _ _).mono ?_; rintro e w' ⟨rfl, rfl⟩) | (go_at_call 78; refine (l1Rounds_any n _ (by omega) (by omega)).mono ?_; rintro e w' ⟨rfl, rfl⟩))
  go_ret2
  exact ⟨rfl, rfl⟩
set_option maxHeartbeats 1600000 in
theorem sTouchRows_t (m : Mth) (b s t : ByteArray) (w : World) (h : MkOk m b s w) (hc : callsP m b s) (ht : touchP t) (hle : t.size * m.x.length ≤ 800) :
    Calls Tryz.prog 28 #[.agg #[Value.string m.name, .int .i64 m.stage, .slice m.A m.x.length m.c], .agg #[Value.string b, .string s], .string t] w fun e w' => ∃ A c, e = .returned (.tuple #[.slice A (rowsL9 m.stage.toNat m.x b s t).length c, .bool true]) ∧ (rowsL9 m.stage.toNat m.x b s t).length ≤ c ∧ OwnL w' w.heap.size w'.heap.size A 1 encString (rowsL9 m.stage.toNat m.x b s t) ∧ Below w.heap.size w w' := by
  have hg := hc.geo
  have e0 := B_t (show askP m b s t from ⟨hc, ht⟩)
  have hts : t.size ≤ 1000 := Nat.le_trans ht.2.2 (by omega)
  have hst : ((m.stage.toNat : Nat) : Int) = m.stage := by have := hc.1.2.stage.1; omega
  obtain ⟨TL, hTL⟩ : ∃ TL, Hid (rowsL9 m.stage.toNat m.x b s t = TL) := ⟨_, Lib.hid rfl⟩
  have hrows : Hid (∀ W, MkOk m b s W → Calls Tryz.prog 79 #[.agg #[Value.string m.name, .int .i64 m.stage, .slice m.A m.x.length m.c], .agg #[Value.string b, .string s], .string t] W fun e w' => ∃ A c, e = .returned (.slice A TL.length c) ∧ TL.length ≤ c ∧ OwnL w' W.heap.size w'.heap.size A 1 encString TL ∧ Below W.heap.size W w') := Lib.hid fun W hW => by
    have := l9Rows_any m.name m.stage.toNat m.x m.A m.c b s t W hW.rd hg.n3 hg.n8 (Nat.le_trans hg.l40 (by omega)) hg.l0 hW.cp hg.xs hg.bs hg.ss hts ht.2.1
    rw [hst, hTL.out] at this
    exact this
  have hask : Hid (∀ W, MkOk m b s W → Calls Tryz.prog 81 #[.agg #[Value.string m.name, .int .i64 m.stage, .slice m.A m.x.length m.c], .agg #[Value.string b, .string s], .string t] W fun e w' => e = .returned (.bool (B (askP m b s t))) ∧ Below W.heap.size W w') := Lib.hid fun W hW => l9Asked_any m b s t W hW (by omega)
  have hm : (t.size : Int) * (m.x.length : Int) = ((t.size * m.x.length : Nat) : Int) := by simp
  obtain ⟨N, hN⟩ : ∃ N, Hid (m.x.length = N) := ⟨_, Lib.hid rfl⟩
  rw [hTL.out]
  rw [hN.out] at hm hle hrows hask ⊢
  obtain ⟨P, hP⟩ : ∃ P, Hid (t.size * N = P) := ⟨_, Lib.hid rfl⟩
  rw [hP.out] at hm hle
  obtain ⟨W, hWe, hWb, hWs, hM, hK⟩ : ∃ W : World, Hid ((w.alloc (.cells #[Value.string m.name, .int .i64 m.stage, .slice m.A N m.c] 45)).alloc (.cells #[Value.string b, .string s] 47) = W) ∧ Hid (Below w.heap.size w W) ∧ w.heap.size + 2 ≤ W.heap.size ∧ Hid (Cells W w.heap.size 3 (fun i => (#[Value.string m.name, .int .i64 m.stage, .slice m.A N m.c] : Array Value).getD i undef)) ∧ Hid (Cells W (w.heap.size + 1) 2 (fun i => (#[Value.string b, .string s] : Array Value).getD i undef)) := by
    have z1 : w.heap.size + 1 = (w.alloc (.cells #[Value.string m.name, .int .i64 m.stage, .slice m.A N m.c] 45)).heap.size := by simp
    refine ⟨_, Lib.hid rfl, Lib.hid (((Below.refl _ _).alloc (Nat.le_refl _) _).alloc (by simp) _), by simp, Lib.hid ?_, Lib.hid ?_⟩
    · exact (Cells.newD _ #[Value.string m.name, .int .i64 m.stage, .slice m.A N m.c] _).alloc _
    · rw [z1]; exact Cells.newD _ #[Value.string b, .string s] _
  have H := Lib.hid (h.later hWb.out)
  clear h hg hc ht
  have u0 := hM.out.cell (i := 0) (by omega)
  have u1 := hM.out.cell (i := 1) (by omega)
  have u2 := hM.out.cell (i := 2) (by omega)
  have u3 := hK.out.cell (i := 0) (by omega)
  have u4 := hK.out.cell (i := 1) (by omega)
  go_enter Tryz.func28, Tryz.ntmps28
  go_wp2_with fail
  rw [hWe.out]
  clear hWe
  go_wp2_with (first
    | (go_at_call 81; refine (hask.out W H.out).mono ?_; rintro e w1 ⟨rfl, hb1⟩; have HB1 := Lib.hid hb1; have hM1 := hM.out.later hb1; have hK1 := hK.out.later hb1; clear hb1 u0 u1 u2 u3 u4; have u0 := hM1.cell (i := 0) (by omega); have u1 := hM1.cell (i := 1) (by omega); have u2 : w1.cell? ⟨w.heap.size, 2, none⟩ = some (.slice m.A N m.c) := hM1.cell (i := 2) (by omega); have u3 := hK1.cell (i := 0) (by omega); have u4 := hK1.cell (i := 1) (by omega); clear hM1 hK1)
    | (go_at_call 79; refine (hrows.out w1 (H.out.later HB1.out)).mono ?_; rintro e w2 ⟨A2, c2, rfl, hcap2, ho2, hb2⟩; have HO2 := Lib.hid ho2; have HB2 := Lib.hid (HB1.out.trans (hb2.mono HB1.out.size)); have hz1 := HB1.out.size; have HCAP := Lib.hid hcap2; clear ho2 hb2 hcap2)
    | fail)
  go_ret2
  exact ⟨A2, c2, rfl, HCAP.out, HO2.out.mono (by omega) (Nat.le_refl _), hWb.out.trans (HB2.out.mono hWb.out.size)⟩
end Go.Proofs.YtkegbbndmfnolaaGreat

/-
  A law's argument of bytes.
-/
namespace Go.Proofs.YtkegbbndmfnolaaGreat
open Go.RowKit Go.ChangeShapes Go.WideShapes
set_option linter.unusedVariables false
set_option linter.unusedSimpArgs false
set_option maxRecDepth 100000
def Byte_small (lim : Int) (x : Int) : Prop := 0 ≤ x ∧ x < 256
theorem Byte_el {H : Type} {en : TypeId × Value → H} {w : World} {base : Nat} {spare : Nat → Bool} {held : Bool} (n : Nat) (cs : List Value) (y : DataW H × List MemPlace) (h : DataW.trod en Tryz.prog w base spare held n 5 cs = some y) : ∃ x : Int, cs = encByte x ∧ Byte_small 9223372036854775807 x := by
  obtain ⟨a, rfl, _, hw⟩ := DataW.trod_int Tryz.underlying5 h
  refine ⟨a, rfl, ?_⟩
  simp [Lit.wf, IntKind.min, IntKind.max, IntKind.signed, IntKind.bits] at hw
  unfold Byte_small; omega
end Go.Proofs.YtkegbbndmfnolaaGreat
