/-
  A band as a result: what it holds, where its slices lie; marks on it; NewBand of both sides.
-/
import Derived.Test.YtdecjijldcbnjaaNewBand
namespace Go.Proofs.Ytdecjijldcbnjaa
open Go.RowKit
set_option linter.unusedVariables false
set_option linter.unusedSimpArgs false
set_option maxRecDepth 100000

/-- What a band holds. -/
structure Bd where
  name : ByteArray
  stage : Int
  x : List ByteArray
  bob : ByteArray
  sing : ByteArray
  step : Int
  call : ByteArray
  tru : ByteArray
  rx : List Rgr
def Bd.zero : Bd := ⟨⟨#[]⟩, 0, [], ⟨#[]⟩, ⟨#[]⟩, 0, ⟨#[]⟩, ⟨#[]⟩, []⟩
/-- The value is that band; its slices lie in two ranges of blocks. -/
def BdAt (d : Bd) (v : Value) (lo hi : Nat) (w : World) : Prop :=
  ∃ A1 c1 A3 c3 gs, v = .agg #[.string d.name, .int .i64 d.stage, .slice A1 d.x.length c1, .string d.bob, .string d.sing, .int .i64 d.step, .string d.call, .string d.tru, .slice A3 d.rx.length c3] ∧ lo ≤ gs ∧ gs ≤ hi ∧ OwnL w lo gs A1 1 encString d.x ∧ OwnL w gs hi A3 2 Rgr.enc d.rx
theorem loc_bd (d : Bd) (v : Value) (lo hi : Nat) : GLoc ⟨lo, hi, fun w => BdAt d v lo hi w, true⟩ :=
  loc_ex fun _ => loc_ex fun _ => loc_ex fun _ => loc_ex fun _ => loc_ex fun gs => loc_imp fun _ => loc_imp fun h1 => loc_imp fun h2 => loc_and (loc_own (Nat.le_refl _) h2) (loc_own h1 (Nat.le_refl _))
theorem BdAt.later {d : Bd} {v : Value} {lo hi : Nat} {w w' : World} (h : BdAt d v lo hi w) (hb : Below w.heap.size w w') : BdAt d v lo hi w' := by
  obtain ⟨A1, c1, A3, c3, gs, hv, h1, h2, o1, o3⟩ := h
  exact ⟨A1, c1, A3, c3, gs, hv, h1, h2, o1.later hb, o3.later hb⟩
theorem BdAt.chg {d : Bd} {v : Value} {lo hi b c : Nat} {w w' : World} (h : BdAt d v lo hi w) (k : Chg b c w w') (hr : hi ≤ b ∨ c ≤ lo) : BdAt d v lo hi w' := by
  obtain ⟨A1, c1, A3, c3, gs, hv, h1, h2, o1, o3⟩ := h
  exact ⟨A1, c1, A3, c3, gs, hv, h1, h2, o1.chg k (by omega), o3.chg k (by omega)⟩
theorem BdAt.open {d : Bd} {A1 A3 : Option Addr} {c1 c3 lo hi : Nat} {w : World} (h : BdAt d (.agg #[.string d.name, .int .i64 d.stage, .slice A1 d.x.length c1, .string d.bob, .string d.sing, .int .i64 d.step, .string d.call, .string d.tru, .slice A3 d.rx.length c3]) lo hi w) : ∃ gs, lo ≤ gs ∧ gs ≤ hi ∧ OwnL w lo gs A1 1 encString d.x ∧ OwnL w gs hi A3 2 Rgr.enc d.rx := by
  obtain ⟨A1', c1', A3', c3', gs, hv, h1, h2, o1, o3⟩ := h
  obtain ⟨⟨rfl, rfl⟩, rfl, rfl⟩ : (A1 = A1' ∧ c1 = c1') ∧ A3 = A3' ∧ c3 = c3' := by simpa using hv
  exact ⟨gs, h1, h2, o1, o3⟩
def BdRet (d : Bd) (ok : Bool) (w : World) (e : Ending) (w' : World) : Prop := ∃ v, e = .returned (.tuple #[v, .bool ok]) ∧ BdAt d v w.heap.size w'.heap.size w' ∧ Below w.heap.size w w'
def BdOne (d : Bd) (w : World) (e : Ending) (w' : World) : Prop := ∃ v, e = .returned v ∧ BdAt d v w.heap.size w'.heap.size w' ∧ Below w.heap.size w w'
theorem BdAt.zero (lo hi : Nat) (w : World) (h : lo ≤ hi) : BdAt Bd.zero (.agg #[.string ⟨#[]⟩, .int .i64 0, .slice none 0 0, .string ⟨#[]⟩, .string ⟨#[]⟩, .int .i64 0, .string ⟨#[]⟩, .string ⟨#[]⟩, .slice none 0 0]) lo hi w :=
  ⟨none, 0, none, 0, lo, rfl, Nat.le_refl _, h, .inl rfl, .inl rfl⟩


theorem markMethodC_any (m : Mth) (lo hi q : Nat) (w : World) (h : OwnL w lo hi m.A 1 encString m.x) (hhi : hi ≤ w.heap.size) (hl : m.x.length ≤ 1048576) (hq0 : 0 < q) (hq : q ≤ 90000000000) :
    Calls Try.prog 46 #[.agg #[.string m.name, .int .i64 m.stage, .slice m.A m.x.length m.c], .int .i64 q] w fun e w' => e = .returned (.int .i64 ((q + m.x.length : Nat) : Int)) ∧ OwnL w' lo hi m.A 1 encString (markStringL m.x.length q) ∧ Chg lo hi w w' := by
  have hb0 : Hid (Below w.heap.size w (w.alloc (.cells #[.string m.name, .int .i64 m.stage, .slice m.A m.x.length m.c] 60))) := Lib.hid ((Below.refl _ _).alloc (Nat.le_refl _) _)
  have H := Lib.hid (h.later hb0.out)
  clear h
  go_enter Try.func46, Try.ntmps46
  go_wp2_with (go_at_call 133; refine (markStringS_any m.x lo hi m.A m.c q _ H.out hl hq0 (by omega)).mono ?_; rintro e w1 ⟨he, ho, hc⟩; rw [Nat.mul_one] at he; subst he; have HO := Lib.hid ho; clear ho)
  go_ret
  exact ⟨rfl, HO.out, (Chg.of_below hb0.out).trans hc⟩
set_option maxHeartbeats 1600000 in
theorem markBandC_any (b : Bnd) (lo gs hi q : Nat) (w : World) (h1 : OwnL w lo gs b.m.A 1 encString b.m.x) (h3 : OwnL w gs hi b.RA 2 Rgr.enc b.rx) (hlo : lo ≤ gs) (hgs : gs ≤ hi) (hhi : hi ≤ w.heap.size) (hl : b.m.x.length ≤ 1048576) (hrl : b.rx.length ≤ 1048576) (hq0 : 0 < q) (hq : q ≤ 80000000000) :
    Calls Try.prog 82 #[.agg #[.string b.m.name, .int .i64 b.m.stage, .slice b.m.A b.m.x.length b.m.c, .string b.bob, .string b.sing, .int .i64 b.step, .string b.call, .string b.tru, .slice b.RA b.rx.length b.rc], .int .i64 q] w fun e w' => e = .returned (.int .i64 ((q + b.m.x.length + b.rx.length * 2 : Nat) : Int)) ∧ OwnL w' lo gs b.m.A 1 encString (markStringL b.m.x.length q) ∧ OwnL w' gs hi b.RA 2 Rgr.enc (markRingerL b.rx.length (q + b.m.x.length)) ∧ Chg lo hi w w' := by
  have hb0 : Hid (Below w.heap.size w (w.alloc (.cells #[.string b.m.name, .int .i64 b.m.stage, .slice b.m.A b.m.x.length b.m.c, .string b.bob, .string b.sing, .int .i64 b.step, .string b.call, .string b.tru, .slice b.RA b.rx.length b.rc] 106))) := Lib.hid ((Below.refl _ _).alloc (Nat.le_refl _) _)
  have H1 := Lib.hid (h1.later hb0.out)
  have H3 := Lib.hid (h3.later hb0.out)
  have a8 : Hid ((w.alloc (.cells #[.string b.m.name, .int .i64 b.m.stage, .slice b.m.A b.m.x.length b.m.c, .string b.bob, .string b.sing, .int .i64 b.step, .string b.call, .string b.tru, .slice b.RA b.rx.length b.rc] 106)).cell? ⟨w.heap.size, 8, none⟩ = some (.slice b.RA b.rx.length b.rc)) := Lib.hid (by simp [go_sem])
  have hs0 : Hid ((w.alloc (.cells #[.string b.m.name, .int .i64 b.m.stage, .slice b.m.A b.m.x.length b.m.c, .string b.bob, .string b.sing, .int .i64 b.step, .string b.call, .string b.tru, .slice b.RA b.rx.length b.rc] 106)).heap.size = w.heap.size + 1) := Lib.hid (by simp)
  clear h1 h3
  go_enter Try.func82, Try.ntmps82
  go_wp2_with (first | (go_at_call 46; refine (markMethodC_any b.m lo gs q _ H1.out (by have := hs0.out; omega) hl hq0 (by omega)).mono ?_; rintro e w1 ⟨rfl, ho1, hc1⟩; have HO1 := Lib.hid ho1; clear ho1; have q8 := (hc1.cell (p := ⟨w.heap.size, 8, none⟩) (show w.heap.size < _ from by have := hs0.out; omega) (show w.heap.size < lo ∨ gs ≤ w.heap.size from .inr (by omega))).trans a8.out; have G3 := Lib.hid (H3.out.chg hc1 (.inr (Nat.le_refl _)))) | (go_at_call 169; refine (markRingerS_any b.rx gs hi b.RA b.rc (q + b.m.x.length) _ G3.out hrl (by omega) (by omega)).mono ?_; rintro e w2 ⟨rfl, ho2, hc2⟩; have HO2 := Lib.hid ho2; clear ho2))
  go_ret
  exact ⟨rfl, HO1.out.chg hc2 (.inl (Nat.le_refl _)), HO2.out, ((Chg.of_below hb0.out).trans (hc1.mono (Nat.le_refl _) hgs)).trans (hc2.mono hlo (Nat.le_refl _))⟩
theorem heldMethod_any (nm : ByteArray) (st : Int) (m : Nat) (A : Option Addr) (c q : Nat) (w : World) (h : RdL w w.heap.size A 1 encString (markStringL m q)) (hl : m ≤ 1048576) (hq0 : 0 < q) (hq : q ≤ 90000000000) :
    Calls Try.prog 170 #[.agg #[.string nm, .int .i64 st, .slice A m c], .int .i64 q] w fun e w' => e = .returned (.int .i64 ((q + m : Nat) : Int)) ∧ Below w.heap.size w w' := by
  have hb0 : Hid (Below w.heap.size w (w.alloc (.cells #[.string nm, .int .i64 st, .slice A m c] 60))) := Lib.hid ((Below.refl _ _).alloc (Nat.le_refl _) _)
  have H := Lib.hid ((h.below hb0.out (Nat.le_refl _)).more hb0.out.size)
  clear h
  go_enter Try.func170, Try.ntmps170
  go_wp2_with (go_at_call 212; refine (heldStringS_any m A c q _ H.out hl hq0 (by omega)).mono ?_; rintro e w1 ⟨he, hb⟩; rw [Nat.mul_one] at he; subst he)
  go_ret
  exact ⟨rfl, hb0.out.trans (hb.mono hb0.out.size)⟩
set_option maxHeartbeats 1600000 in
theorem heldBand_any (nm : ByteArray) (st : Int) (A1 : Option Addr) (n1 c1 : Nat) (b s : ByteArray) (stp : Int) (cal tru : ByteArray) (A3 : Option Addr) (n3 c3 q : Nat) (w : World) (h1 : RdL w w.heap.size A1 1 encString (markStringL n1 q)) (h3 : RdL w w.heap.size A3 2 Rgr.enc (markRingerL n3 (q + n1))) (hl : n1 ≤ 1048576) (hrl : n3 ≤ 1048576) (hq0 : 0 < q) (hq : q ≤ 80000000000) :
    Calls Try.prog 83 #[.agg #[.string nm, .int .i64 st, .slice A1 n1 c1, .string b, .string s, .int .i64 stp, .string cal, .string tru, .slice A3 n3 c3], .int .i64 q] w fun e w' => e = .returned (.int .i64 ((q + n1 + n3 * 2 : Nat) : Int)) ∧ Below w.heap.size w w' := by
  have hb0 : Hid (Below w.heap.size w (w.alloc (.cells #[.string nm, .int .i64 st, .slice A1 n1 c1, .string b, .string s, .int .i64 stp, .string cal, .string tru, .slice A3 n3 c3] 106))) := Lib.hid ((Below.refl _ _).alloc (Nat.le_refl _) _)
  have H1 := Lib.hid ((h1.below hb0.out (Nat.le_refl _)).more hb0.out.size)
  have H3 := Lib.hid ((h3.below hb0.out (Nat.le_refl _)).more hb0.out.size)
  have a8 : Hid ((w.alloc (.cells #[.string nm, .int .i64 st, .slice A1 n1 c1, .string b, .string s, .int .i64 stp, .string cal, .string tru, .slice A3 n3 c3] 106)).cell? ⟨w.heap.size, 8, none⟩ = some (.slice A3 n3 c3)) := Lib.hid (by simp [go_sem])
  have hs0 : Hid ((w.alloc (.cells #[.string nm, .int .i64 st, .slice A1 n1 c1, .string b, .string s, .int .i64 stp, .string cal, .string tru, .slice A3 n3 c3] 106)).heap.size = w.heap.size + 1) := Lib.hid (by simp)
  clear h1 h3
  go_enter Try.func83, Try.ntmps83
  go_wp2_with (first | (go_at_call 170; refine (heldMethod_any nm st n1 A1 c1 q _ H1.out hl hq0 (by omega)).mono ?_; rintro e w1 ⟨rfl, hb1⟩; have q8 := (hb1.cell (p := ⟨w.heap.size, 8, none⟩) (show w.heap.size < _ from by have := hs0.out; omega)).trans a8.out; have G3 := Lib.hid ((H3.out.below hb1 (Nat.le_refl _)).more hb1.size)) | (go_at_call 171; refine (heldRingerS_any n3 A3 c3 (q + n1) _ G3.out hrl (by omega) (by omega)).mono ?_; rintro e w2 ⟨rfl, hb2⟩))
  go_ret
  exact ⟨ret_int (by omega), hb0.out.trans ((hb1.mono hb0.out.size).trans (hb2.mono (Nat.le_trans hb0.out.size hb1.size)))⟩
end Go.Proofs.Ytdecjijldcbnjaa
