/-
  The actions that put a band right: contracts of both sides, and the law.
-/
import Derived.Test.YtgdmnkccilnbgaaWrongIn
import Derived.Test.YtgdmnkccilnbgaaOpenBand
import Derived.Test.YtgdmnkccilnbgaaRow
namespace Go.Proofs.Ytgdmnkccilnbgaa
open Go.RowKit Go.ChangeShapes Go.WideShapes Go.Deep
set_option linter.unusedVariables false
set_option linter.unusedSimpArgs false
set_option maxRecDepth 100000

/-- The action that tells the ringer of a bell. -/
def tellA (n : Int) : Act_ := ⟨5, n, 0, ⟨#[]⟩⟩
/-- The actions that tell these bells' ringers. -/
def tellL (l : List Int) : List Act_ := l.map tellA
theorem tellL_len (l : List Int) : (tellL l).length = l.length := List.length_map _
theorem tellL_succ (l : List Int) (k : Nat) (hk : k < l.length) : tellL (l.take (k + 1)) = tellL (l.take k) ++ [tellA l[k]] := by
  unfold tellL; rw [List.take_succ_eq_append_getElem hk, List.map_append]; rfl





set_option maxHeartbeats 3200000 in
theorem iPutRight_t (b : Bnd) (w : World) (h : b.Ok w) (hp : bandP b) :
    Calls Try.prog 44 #[.agg #[.string b.m.name, .int .i64 b.m.stage, .slice b.m.A b.m.x.length b.m.c, .string b.bob, .string b.sing, .int .i64 b.step, .string b.call, .string b.tru, .slice b.RA b.rx.length b.rc]] w fun e w' => ∃ A c, e = .returned (.tuple #[.slice A (tellL (wrongTo b.tru b.rx b.rx.length)).length c, .bool true]) ∧ OwnL w' w.heap.size w'.heap.size A 4 Act_.enc (tellL (wrongTo b.tru b.rx b.rx.length)) ∧ Below w.heap.size w w' := by
  have HP := Lib.hid hp
  have hll : (wrongTo b.tru b.rx b.rx.length).length ≤ 8 := by have := wrongTo_len b.tru b.rx b.rx.length; have := hp.2.2.2.2.1; have h8 := hp.2.2.2.1.2.2; have h9 := hp.2.2.2.1.2.1; have := hp.2.2.2.1.1; have := hp.2.2.2.1.2.2.1; omega
  have hok : ∀ W, Below w.heap.size w W → b.Ok W := fun W hb => ⟨(h.ch.below hb (Nat.le_refl _)).more hb.size, (h.ri.below hb (Nat.le_refl _)).more hb.size, h.nm, h.cl, h.cs, h.bs, h.ss, h.ks, h.ts, h.rl⟩
  have Hok := Lib.hid hok
  have a0 : Hid (∀ (i : Nat) (u : Value), (#[.string b.m.name, .int .i64 b.m.stage, .slice b.m.A b.m.x.length b.m.c, .string b.bob, .string b.sing, .int .i64 b.step, .string b.call, .string b.tru, .slice b.RA b.rx.length b.rc] : Array Value)[i]? = some u → ((w.alloc (.cells #[.string b.m.name, .int .i64 b.m.stage, .slice b.m.A b.m.x.length b.m.c, .string b.bob, .string b.sing, .int .i64 b.step, .string b.call, .string b.tru, .slice b.RA b.rx.length b.rc] 54))).cell? ⟨w.heap.size, i, none⟩ = some u) := Lib.hid (fun i u hu => by rw [World.cell?_alloc_new]; exact hu)
  have hb0 : Hid (Below w.heap.size w (w.alloc (.cells #[.string b.m.name, .int .i64 b.m.stage, .slice b.m.A b.m.x.length b.m.c, .string b.bob, .string b.sing, .int .i64 b.step, .string b.call, .string b.tru, .slice b.RA b.rx.length b.rc] 54))) := Lib.hid ((Below.refl _ _).alloc (Nat.le_refl _) _)
  have hs0 : w.heap.size < ((w.alloc (.cells #[.string b.m.name, .int .i64 b.m.stage, .slice b.m.A b.m.x.length b.m.c, .string b.bob, .string b.sing, .int .i64 b.step, .string b.call, .string b.tru, .slice b.RA b.rx.length b.rc] 54))).heap.size := by simp
  obtain ⟨l, hl⟩ : ∃ l, Hid ((wrongTo b.tru b.rx b.rx.length) = l) := ⟨_, Lib.hid rfl⟩
  rw [hl.out] at hll ⊢
  have hwi : Hid (∀ W, b.Ok W → Calls Try.prog 29 #[.agg #[.string b.m.name, .int .i64 b.m.stage, .slice b.m.A b.m.x.length b.m.c, .string b.bob, .string b.sing, .int .i64 b.step, .string b.call, .string b.tru, .slice b.RA b.rx.length b.rc]] W fun e w' => ∃ A c, e = .returned (.tuple #[.slice A l.length c, .bool true]) ∧ OwnL w' W.heap.size w'.heap.size A 1 encInt l ∧ Below W.heap.size W w') := Lib.hid (fun W hW => by rw [← hl.out]; exact iWrongIn_t b W hW HP.out)
  clear hok h hp
  go_enter Try.func44, Try.ntmps44
  go_wp2_with (go_at_call 29; refine (hwi.out _ (Hok.out _ hb0.out)).mono ?_; rintro e w2 ⟨A, c, rfl, ho, hb2⟩; have HR := Lib.hid (ho.rd encInt_len); have Hw2 := Lib.hid (hb0.out.trans (hb2.mono hb0.out.size)); clear ho hb2)
  skip
  go_loopw [6, 19] (fun v i wr => ∃ k : Nat, k ≤ l.length ∧ i = .int .i64 k ∧ Grow wr w2.heap.size 117 4 Act_.enc v (tellL (l.take k)) ∧ Below w2.heap.size w2 wr) (fun _ i _ => l.length - (intOf i).toNat)
  case atStart => exact ⟨0, by omega, by rfl, Grow.empty (Nat.le_refl _), (Below.refl _ _).alloc (Nat.le_refl _) _⟩
  case round =>
    obtain ⟨k, hk, rfl, hg, hbl⟩ := hrel
    have Hg := Lib.hid hg
    have Hb := Lib.hid hbl
    have hz1 := hbl.size
    clear hg hbl
    by_cases hlt : k < l.length
    · obtain ⟨g, off, hA, hgl, hcell⟩ := HR.out.at hlt
      subst hA
      have r0 : wr.cell? ⟨g, off + k, none⟩ = some (.int .i64 l[k]) := (Hb.out.cell (p := ⟨g, off + k, none⟩) hgl).trans (by have := hcell 0 _ rfl; rw [Nat.mul_one] at this; exact this)
      have hlen : (tellL (l.take k)).length ≤ 1000 := by rw [tellL_len, List.length_take]; omega
      obtain ⟨x, hx⟩ : ∃ x, Hid (l[k] = x) := ⟨_, Lib.hid rfl⟩
      rw [hx.out] at r0
      clear hcell
      have hone : (∀ u ∈ [Value.int .i64 5, Value.int .i64 x, Value.int .i64 0, Value.string ⟨#[]⟩], u.oneCell' = true) := by simp [Value.oneCell']
      have Hone := Lib.hid hone
      clear hone
      go_wp2_with (at_builtin; refine wpList_push rfl (.tmp 23) (.tmp 26) 71 rfl w2.heap.size 117 _ 4 40 Act_.enc rfl RingAct_info rfl (by omega) u6 (tellL (l.take k)) [tellA x] 1 rfl rfl (by first | rfl | simp) Hg.out rfl Act__enc_len Hone.out (by simp only [List.length_singleton]; omega) (by omega) (by first | omega | (simp; omega)) ?_; intro v' w9 hg9 hb9 _)
      go_roundw
      case rel => exact ⟨k + 1, by omega, by go_num, by rw [tellL_succ l k hlt, hx.out]; exact hg9, Hb.out.trans hb9⟩
      case measure => simp [intOf]; omega
    · obtain rfl : k = l.length := by omega
      go_wp2
      have hg := Hg.out
      rw [List.take_length] at hg
      obtain ⟨A9, c9, hv, ho⟩ := hg.own Act__enc_len
      go_ret2
      exact ⟨A9, c9, by rw [hv]; rfl, ho.mono Hw2.out.size (Nat.le_refl _), Hw2.out.trans (Hb.out.mono Hw2.out.size)⟩
theorem iPutRight_f (b : Bnd) (w : World) (h : b.Ok w) (hp : ¬ bandP b) :
    Calls Try.prog 44 #[.agg #[.string b.m.name, .int .i64 b.m.stage, .slice b.m.A b.m.x.length b.m.c, .string b.bob, .string b.sing, .int .i64 b.step, .string b.call, .string b.tru, .slice b.RA b.rx.length b.rc]] w fun e w' => e = .returned (.tuple #[.slice none 0 0, .bool false]) ∧ Below w.heap.size w w' := by
  have HP := Lib.hid hp
  have hok : ∀ W, Below w.heap.size w W → b.Ok W := fun W hb => ⟨(h.ch.below hb (Nat.le_refl _)).more hb.size, (h.ri.below hb (Nat.le_refl _)).more hb.size, h.nm, h.cl, h.cs, h.bs, h.ss, h.ks, h.ts, h.rl⟩
  have Hok := Lib.hid hok
  have hb0 : Hid (Below w.heap.size w (w.alloc (.cells #[.string b.m.name, .int .i64 b.m.stage, .slice b.m.A b.m.x.length b.m.c, .string b.bob, .string b.sing, .int .i64 b.step, .string b.call, .string b.tru, .slice b.RA b.rx.length b.rc] 54))) := Lib.hid ((Below.refl _ _).alloc (Nat.le_refl _) _)
  clear hok h hp
  go_enter Try.func44, Try.ntmps44
  go_wp2_with (go_at_call 29; refine (iWrongIn_f b _ (Hok.out _ hb0.out) HP.out).mono ?_; rintro e w1 ⟨rfl, hb1⟩)
  go_ret2
  exact ⟨rfl, hb0.out.trans (hb1.mono hb0.out.size)⟩

set_option maxHeartbeats 3200000 in
theorem sPutRight_t (b : Bnd) (w : World) (h : b.Ok w) (hp : bandP b) :
    Calls Try.prog 43 #[.agg #[.string b.m.name, .int .i64 b.m.stage, .slice b.m.A b.m.x.length b.m.c, .string b.bob, .string b.sing, .int .i64 b.step, .string b.call, .string b.tru, .slice b.RA b.rx.length b.rc]] w fun e w' => ∃ A c, e = .returned (.tuple #[.slice A (tellL (wrongTo b.tru b.rx b.rx.length)).length c, .bool true]) ∧ OwnL w' w.heap.size w'.heap.size A 4 Act_.enc (tellL (wrongTo b.tru b.rx b.rx.length)) ∧ Below w.heap.size w w' := by
  have e1 := B_t hp
  have HP := Lib.hid hp
  have hll : (wrongTo b.tru b.rx b.rx.length).length ≤ 8 := by have := wrongTo_len b.tru b.rx b.rx.length; have := hp.2.2.2.2.1; have h8 := hp.2.2.2.1.2.2; have h9 := hp.2.2.2.1.2.1; have := hp.2.2.2.1.1; have := hp.2.2.2.1.2.2.1; omega
  have hok : ∀ W, Below w.heap.size w W → b.Ok W := fun W hb => ⟨(h.ch.below hb (Nat.le_refl _)).more hb.size, (h.ri.below hb (Nat.le_refl _)).more hb.size, h.nm, h.cl, h.cs, h.bs, h.ss, h.ks, h.ts, h.rl⟩
  have Hok := Lib.hid hok
  have a0 : Hid (∀ (i : Nat) (u : Value), (#[.string b.m.name, .int .i64 b.m.stage, .slice b.m.A b.m.x.length b.m.c, .string b.bob, .string b.sing, .int .i64 b.step, .string b.call, .string b.tru, .slice b.RA b.rx.length b.rc] : Array Value)[i]? = some u → ((w.alloc (.cells #[.string b.m.name, .int .i64 b.m.stage, .slice b.m.A b.m.x.length b.m.c, .string b.bob, .string b.sing, .int .i64 b.step, .string b.call, .string b.tru, .slice b.RA b.rx.length b.rc] 54))).cell? ⟨w.heap.size, i, none⟩ = some u) := Lib.hid (fun i u hu => by rw [World.cell?_alloc_new]; exact hu)
  have hb0 : Hid (Below w.heap.size w (w.alloc (.cells #[.string b.m.name, .int .i64 b.m.stage, .slice b.m.A b.m.x.length b.m.c, .string b.bob, .string b.sing, .int .i64 b.step, .string b.call, .string b.tru, .slice b.RA b.rx.length b.rc] 54))) := Lib.hid ((Below.refl _ _).alloc (Nat.le_refl _) _)
  have hs0 : w.heap.size < ((w.alloc (.cells #[.string b.m.name, .int .i64 b.m.stage, .slice b.m.A b.m.x.length b.m.c, .string b.bob, .string b.sing, .int .i64 b.step, .string b.call, .string b.tru, .slice b.RA b.rx.length b.rc] 54))).heap.size := by simp
  obtain ⟨l, hl⟩ : ∃ l, Hid ((wrongTo b.tru b.rx b.rx.length) = l) := ⟨_, Lib.hid rfl⟩
  rw [hl.out] at hll ⊢
  have hwi : Hid (∀ W, b.Ok W → Calls Try.prog 74 #[.agg #[.string b.m.name, .int .i64 b.m.stage, .slice b.m.A b.m.x.length b.m.c, .string b.bob, .string b.sing, .int .i64 b.step, .string b.call, .string b.tru, .slice b.RA b.rx.length b.rc]] W fun e w' => ∃ A c, e = .returned (.slice A l.length c) ∧ OwnL w' W.heap.size w'.heap.size A 1 encInt l ∧ Below W.heap.size W w') := Lib.hid (fun W hW => by rw [← hl.out]; exact l24Wrong_any b W hW HP.out)
  clear hok h hp
  go_enter Try.func43, Try.ntmps43
  go_wp2_with (first | (go_at_call 73; refine (calls_bool (l24Good_any b _ (Hok.out _ hb0.out)) e1).mono ?_; rintro e w1 ⟨rfl, hb1⟩; have q0 := (hb1.cell (p := ⟨w.heap.size, 0, none⟩) hs0).trans (a0.out 0 _ rfl); have q1 := (hb1.cell (p := ⟨w.heap.size, 1, none⟩) hs0).trans (a0.out 1 _ rfl); have q2 := (hb1.cell (p := ⟨w.heap.size, 2, none⟩) hs0).trans (a0.out 2 _ rfl); have q3 := (hb1.cell (p := ⟨w.heap.size, 3, none⟩) hs0).trans (a0.out 3 _ rfl); have q4 := (hb1.cell (p := ⟨w.heap.size, 4, none⟩) hs0).trans (a0.out 4 _ rfl); have q5 := (hb1.cell (p := ⟨w.heap.size, 5, none⟩) hs0).trans (a0.out 5 _ rfl); have q6 := (hb1.cell (p := ⟨w.heap.size, 6, none⟩) hs0).trans (a0.out 6 _ rfl); have q7 := (hb1.cell (p := ⟨w.heap.size, 7, none⟩) hs0).trans (a0.out 7 _ rfl); have q8 := (hb1.cell (p := ⟨w.heap.size, 8, none⟩) hs0).trans (a0.out 8 _ rfl); have Hw1 := Lib.hid (hb0.out.trans (hb1.mono hb0.out.size)); clear hb1) | (go_at_call 74; refine (hwi.out _ (Hok.out _ Hw1.out)).mono ?_; rintro e w2 ⟨A, c, rfl, ho, hb2⟩; have HR := Lib.hid (ho.rd encInt_len); have Hw2 := Lib.hid (Hw1.out.trans (hb2.mono Hw1.out.size)); clear ho hb2 q0 q1 q2 q3 q4 q5 q6 q7 q8))
  skip
  go_loopw [4, 13] (fun v i wr => ∃ k : Nat, k ≤ l.length ∧ i = .int .i64 k ∧ Grow wr w2.heap.size 117 4 Act_.enc v (tellL (l.take k)) ∧ Below w2.heap.size w2 wr) (fun _ i _ => l.length - (intOf i).toNat)
  case atStart => exact ⟨0, by omega, by rfl, Grow.nil, Below.refl _ _⟩
  case round =>
    obtain ⟨k, hk, rfl, hg, hbl⟩ := hrel
    have Hg := Lib.hid hg
    have Hb := Lib.hid hbl
    have hz1 := hbl.size
    clear hg hbl
    by_cases hlt : k < l.length
    · obtain ⟨g, off, hA, hgl, hcell⟩ := HR.out.at hlt
      subst hA
      have r0 : wr.cell? ⟨g, off + k, none⟩ = some (.int .i64 l[k]) := (Hb.out.cell (p := ⟨g, off + k, none⟩) hgl).trans (by have := hcell 0 _ rfl; rw [Nat.mul_one] at this; exact this)
      have hlen : (tellL (l.take k)).length ≤ 1000 := by rw [tellL_len, List.length_take]; omega
      obtain ⟨x, hx⟩ : ∃ x, Hid (l[k] = x) := ⟨_, Lib.hid rfl⟩
      rw [hx.out] at r0
      clear hcell
      have hone : (∀ u ∈ [Value.int .i64 5, Value.int .i64 x, Value.int .i64 0, Value.string ⟨#[]⟩], u.oneCell' = true) := by simp [Value.oneCell']
      have Hone := Lib.hid hone
      clear hone
      go_wp2_with (at_builtin; refine wpList_push rfl (.tmp 17) (.tmp 20) 71 rfl w2.heap.size 117 _ 4 40 Act_.enc rfl RingAct_info rfl (by omega) u4 (tellL (l.take k)) [tellA x] 1 rfl rfl (by first | rfl | simp) Hg.out rfl Act__enc_len Hone.out (by simp only [List.length_singleton]; omega) (by omega) (by first | omega | (simp; omega)) ?_; intro v' w9 hg9 hb9 _)
      go_roundw
      case rel => exact ⟨k + 1, by omega, by go_num, by rw [tellL_succ l k hlt, hx.out]; exact hg9, Hb.out.trans hb9⟩
      case measure => simp [intOf]; omega
    · obtain rfl : k = l.length := by omega
      go_wp2
      have hg := Hg.out
      rw [List.take_length] at hg
      obtain ⟨A9, c9, hv, ho⟩ := hg.own Act__enc_len
      go_ret2
      exact ⟨A9, c9, by rw [hv]; rfl, ho.mono Hw2.out.size (Nat.le_refl _), Hw2.out.trans (Hb.out.mono Hw2.out.size)⟩
theorem sPutRight_f (b : Bnd) (w : World) (h : b.Ok w) (hp : ¬ bandP b) :
    Calls Try.prog 43 #[.agg #[.string b.m.name, .int .i64 b.m.stage, .slice b.m.A b.m.x.length b.m.c, .string b.bob, .string b.sing, .int .i64 b.step, .string b.call, .string b.tru, .slice b.RA b.rx.length b.rc]] w fun e w' => e = .returned (.tuple #[.slice none 0 0, .bool false]) ∧ Below w.heap.size w w' := by
  have e1 := B_f hp
  have hok : ∀ W, Below w.heap.size w W → b.Ok W := fun W hb => ⟨(h.ch.below hb (Nat.le_refl _)).more hb.size, (h.ri.below hb (Nat.le_refl _)).more hb.size, h.nm, h.cl, h.cs, h.bs, h.ss, h.ks, h.ts, h.rl⟩
  have Hok := Lib.hid hok
  have hb0 : Hid (Below w.heap.size w (w.alloc (.cells #[.string b.m.name, .int .i64 b.m.stage, .slice b.m.A b.m.x.length b.m.c, .string b.bob, .string b.sing, .int .i64 b.step, .string b.call, .string b.tru, .slice b.RA b.rx.length b.rc] 54))) := Lib.hid ((Below.refl _ _).alloc (Nat.le_refl _) _)
  clear hok h hp
  go_enter Try.func43, Try.ntmps43
  go_wp2_with (go_at_call 73; refine (calls_bool (l24Good_any b _ (Hok.out _ hb0.out)) e1).mono ?_; rintro e w1 ⟨rfl, hb1⟩)
  go_ret2
  exact ⟨rfl, hb0.out.trans (hb1.mono hb0.out.size)⟩
set_option maxHeartbeats 8000000 in
theorem putRightLaw (w : World) (b : Bnd) (h : RdL w w.heap.size b.m.A 1 encString b.m.x) (hr : RdL w w.heap.size b.RA 2 Rgr.enc b.rx) (hf : b.Fits) :
    Calls Try.prog 7 #[.agg #[.string b.m.name, .int .i64 b.m.stage, .slice b.m.A b.m.x.length b.m.c, .string b.bob, .string b.sing, .int .i64 b.step, .string b.call, .string b.tru, .slice b.RA b.rx.length b.rc]] w fun e w' => e = .returned (.bool true) ∧ Below w.heap.size w w' := by
  have H := Lib.hid h
  have Hr := Lib.hid hr
  have Hf := Lib.hid hf
  clear h hr hf
  go_enter Try.func7, Try.ntmps7
  go_wp2_with fail
  have s_0_0 : (w.alloc (.cells #[.string b.m.name, .int .i64 b.m.stage, .slice b.m.A b.m.x.length b.m.c, .string b.bob, .string b.sing, .int .i64 b.step, .string b.call, .string b.tru, .slice b.RA b.rx.length b.rc] 47)).cell? ⟨w.heap.size, 0, none⟩ = some (.string b.m.name) := by simp [go_sem]
  have s_1_0 : (w.alloc (.cells #[.string b.m.name, .int .i64 b.m.stage, .slice b.m.A b.m.x.length b.m.c, .string b.bob, .string b.sing, .int .i64 b.step, .string b.call, .string b.tru, .slice b.RA b.rx.length b.rc] 47)).cell? ⟨w.heap.size, 1, none⟩ = some (.int .i64 b.m.stage) := by simp [go_sem]
  have s_2_0 : (w.alloc (.cells #[.string b.m.name, .int .i64 b.m.stage, .slice b.m.A b.m.x.length b.m.c, .string b.bob, .string b.sing, .int .i64 b.step, .string b.call, .string b.tru, .slice b.RA b.rx.length b.rc] 47)).cell? ⟨w.heap.size, 2, none⟩ = some (.slice b.m.A b.m.x.length b.m.c) := by simp [go_sem]
  have s_3_0 : (w.alloc (.cells #[.string b.m.name, .int .i64 b.m.stage, .slice b.m.A b.m.x.length b.m.c, .string b.bob, .string b.sing, .int .i64 b.step, .string b.call, .string b.tru, .slice b.RA b.rx.length b.rc] 47)).cell? ⟨w.heap.size, 3, none⟩ = some (.string b.bob) := by simp [go_sem]
  have s_4_0 : (w.alloc (.cells #[.string b.m.name, .int .i64 b.m.stage, .slice b.m.A b.m.x.length b.m.c, .string b.bob, .string b.sing, .int .i64 b.step, .string b.call, .string b.tru, .slice b.RA b.rx.length b.rc] 47)).cell? ⟨w.heap.size, 4, none⟩ = some (.string b.sing) := by simp [go_sem]
  have s_5_0 : (w.alloc (.cells #[.string b.m.name, .int .i64 b.m.stage, .slice b.m.A b.m.x.length b.m.c, .string b.bob, .string b.sing, .int .i64 b.step, .string b.call, .string b.tru, .slice b.RA b.rx.length b.rc] 47)).cell? ⟨w.heap.size, 5, none⟩ = some (.int .i64 b.step) := by simp [go_sem]
  have s_6_0 : (w.alloc (.cells #[.string b.m.name, .int .i64 b.m.stage, .slice b.m.A b.m.x.length b.m.c, .string b.bob, .string b.sing, .int .i64 b.step, .string b.call, .string b.tru, .slice b.RA b.rx.length b.rc] 47)).cell? ⟨w.heap.size, 6, none⟩ = some (.string b.call) := by simp [go_sem]
  have s_7_0 : (w.alloc (.cells #[.string b.m.name, .int .i64 b.m.stage, .slice b.m.A b.m.x.length b.m.c, .string b.bob, .string b.sing, .int .i64 b.step, .string b.call, .string b.tru, .slice b.RA b.rx.length b.rc] 47)).cell? ⟨w.heap.size, 7, none⟩ = some (.string b.tru) := by simp [go_sem]
  have s_8_0 : (w.alloc (.cells #[.string b.m.name, .int .i64 b.m.stage, .slice b.m.A b.m.x.length b.m.c, .string b.bob, .string b.sing, .int .i64 b.step, .string b.call, .string b.tru, .slice b.RA b.rx.length b.rc] 47)).cell? ⟨w.heap.size, 8, none⟩ = some (.slice b.RA b.rx.length b.rc) := by simp [go_sem]
  have t0 : w.heap.size + 1 ≤ (w.alloc (.cells #[.string b.m.name, .int .i64 b.m.stage, .slice b.m.A b.m.x.length b.m.c, .string b.bob, .string b.sing, .int .i64 b.step, .string b.call, .string b.tru, .slice b.RA b.rx.length b.rc] 47)).heap.size := by simp
  have Bw0 : Hid (Below w.heap.size w (w.alloc (.cells #[.string b.m.name, .int .i64 b.m.stage, .slice b.m.A b.m.x.length b.m.c, .string b.bob, .string b.sing, .int .i64 b.step, .string b.call, .string b.tru, .slice b.RA b.rx.length b.rc] 47))) := Lib.hid ((Below.refl _ _).alloc (Nat.le_refl _) _)
  generalize (w.alloc (.cells #[.string b.m.name, .int .i64 b.m.stage, .slice b.m.A b.m.x.length b.m.c, .string b.bob, .string b.sing, .int .i64 b.step, .string b.call, .string b.tru, .slice b.RA b.rx.length b.rc] 47)) = w0 at *
  refine (szBand_any b 1048576 w0 ((H.out.below Bw0.out (Nat.le_refl _)).more Bw0.out.size) Hf.out (by omega) (by omega)).mono ?_
  rintro e w1 ⟨r1, rfl, hz, hb⟩
  have C1 := Lib.hid hb
  clear hb
  have t1 := C1.out.size
  have Bw1 := Lib.hid (Bw0.out.trans (C1.out.mono Bw0.out.size))
  have s_0_1 := (C1.out.cell (p := ⟨w.heap.size, 0, none⟩) (show w.heap.size < w0.heap.size by omega)).trans s_0_0
  have s_1_1 := (C1.out.cell (p := ⟨w.heap.size, 1, none⟩) (show w.heap.size < w0.heap.size by omega)).trans s_1_0
  have s_2_1 := (C1.out.cell (p := ⟨w.heap.size, 2, none⟩) (show w.heap.size < w0.heap.size by omega)).trans s_2_0
  have s_3_1 := (C1.out.cell (p := ⟨w.heap.size, 3, none⟩) (show w.heap.size < w0.heap.size by omega)).trans s_3_0
  have s_4_1 := (C1.out.cell (p := ⟨w.heap.size, 4, none⟩) (show w.heap.size < w0.heap.size by omega)).trans s_4_0
  have s_5_1 := (C1.out.cell (p := ⟨w.heap.size, 5, none⟩) (show w.heap.size < w0.heap.size by omega)).trans s_5_0
  have s_6_1 := (C1.out.cell (p := ⟨w.heap.size, 6, none⟩) (show w.heap.size < w0.heap.size by omega)).trans s_6_0
  have s_7_1 := (C1.out.cell (p := ⟨w.heap.size, 7, none⟩) (show w.heap.size < w0.heap.size by omega)).trans s_7_0
  have s_8_1 := (C1.out.cell (p := ⟨w.heap.size, 8, none⟩) (show w.heap.size < w0.heap.size by omega)).trans s_8_0
  clear s_0_0 s_1_0 s_2_0 s_3_0 s_4_0 s_5_0 s_6_0 s_7_0 s_8_0
  have Z1 := Lib.hid hz
  clear hz
  by_cases n1 : r1 < 0
  · go_wp2_with fail
    go_ret
    exact ⟨rfl, Bw1.out⟩
  have z1 := Z1.out.resolve_left (by omega)
  have y1 : 0 ≤ r1 := z1.1
  have hsm := z1.2.2
  obtain ⟨m1, m2, m3, m4, m5, m6, m7, m8⟩ := hsm
  have M3 := Lib.hid m3
  clear z1 m3
  have hlen := wrongTo_len b.tru b.rx b.rx.length
  have hlen2 : (tellL (wrongTo b.tru b.rx b.rx.length)).length ≤ b.rx.length := by rw [tellL_len]; exact hlen
  by_cases hp : bandP b
  · have HP := Lib.hid hp
    clear hp
    go_wp2_with fail
    refine (toBand_any b w1 ((H.out.below Bw1.out (Nat.le_refl _)).more Bw1.out.size) ((Hr.out.below Bw1.out (Nat.le_refl _)).more Bw1.out.size) (by omega) (by omega)).mono ?_
    rintro e w2 ⟨Aa2, Ar2, rfl, ho1, ho3, hb⟩
    have C2 := Lib.hid hb
    clear hb
    have t2 := C2.out.size
    have Bw2 := Lib.hid (Bw1.out.trans (C2.out.mono Bw1.out.size))
    have s_0_2 := (C2.out.cell (p := ⟨w.heap.size, 0, none⟩) (show w.heap.size < w1.heap.size by omega)).trans s_0_1
    have s_1_2 := (C2.out.cell (p := ⟨w.heap.size, 1, none⟩) (show w.heap.size < w1.heap.size by omega)).trans s_1_1
    have s_2_2 := (C2.out.cell (p := ⟨w.heap.size, 2, none⟩) (show w.heap.size < w1.heap.size by omega)).trans s_2_1
    have s_3_2 := (C2.out.cell (p := ⟨w.heap.size, 3, none⟩) (show w.heap.size < w1.heap.size by omega)).trans s_3_1
    have s_4_2 := (C2.out.cell (p := ⟨w.heap.size, 4, none⟩) (show w.heap.size < w1.heap.size by omega)).trans s_4_1
    have s_5_2 := (C2.out.cell (p := ⟨w.heap.size, 5, none⟩) (show w.heap.size < w1.heap.size by omega)).trans s_5_1
    have s_6_2 := (C2.out.cell (p := ⟨w.heap.size, 6, none⟩) (show w.heap.size < w1.heap.size by omega)).trans s_6_1
    have s_7_2 := (C2.out.cell (p := ⟨w.heap.size, 7, none⟩) (show w.heap.size < w1.heap.size by omega)).trans s_7_1
    have s_8_2 := (C2.out.cell (p := ⟨w.heap.size, 8, none⟩) (show w.heap.size < w1.heap.size by omega)).trans s_8_1
    clear s_0_1 s_1_1 s_2_1 s_3_1 s_4_1 s_5_1 s_6_1 s_7_1 s_8_1
    have ok2 : Bnd.Ok ⟨⟨b.m.name, b.m.stage, b.m.x, Aa2, b.m.x.length⟩, b.bob, b.sing, b.step, b.call, b.tru, b.rx, Ar2, b.rx.length⟩ w2 := ⟨ho1.rd encString_len, ho3.rd Rgr_enc_len, by simp only; omega, by simp only; omega, M3.out, by simp only; omega, by simp only; omega, by simp only; omega, by simp only; omega, by simp only; omega⟩
    have OK2 := Lib.hid ok2
    clear ok2 ho1 ho3
    go_wp2_with fail
    refine (sPutRight_t ⟨⟨b.m.name, b.m.stage, b.m.x, Aa2, b.m.x.length⟩, b.bob, b.sing, b.step, b.call, b.tru, b.rx, Ar2, b.rx.length⟩ _ OK2.out HP.out).mono ?_
    rintro e w3 ⟨A_w0, c_w0, rfl, ho0, hb⟩
    have C3 := Lib.hid hb
    clear hb
    have t3 := C3.out.size
    have Bw3 := Lib.hid (Bw2.out.trans (C3.out.mono Bw2.out.size))
    have s_0_3 := (C3.out.cell (p := ⟨w.heap.size, 0, none⟩) (show w.heap.size < w2.heap.size by omega)).trans s_0_2
    have s_1_3 := (C3.out.cell (p := ⟨w.heap.size, 1, none⟩) (show w.heap.size < w2.heap.size by omega)).trans s_1_2
    have s_2_3 := (C3.out.cell (p := ⟨w.heap.size, 2, none⟩) (show w.heap.size < w2.heap.size by omega)).trans s_2_2
    have s_3_3 := (C3.out.cell (p := ⟨w.heap.size, 3, none⟩) (show w.heap.size < w2.heap.size by omega)).trans s_3_2
    have s_4_3 := (C3.out.cell (p := ⟨w.heap.size, 4, none⟩) (show w.heap.size < w2.heap.size by omega)).trans s_4_2
    have s_5_3 := (C3.out.cell (p := ⟨w.heap.size, 5, none⟩) (show w.heap.size < w2.heap.size by omega)).trans s_5_2
    have s_6_3 := (C3.out.cell (p := ⟨w.heap.size, 6, none⟩) (show w.heap.size < w2.heap.size by omega)).trans s_6_2
    have s_7_3 := (C3.out.cell (p := ⟨w.heap.size, 7, none⟩) (show w.heap.size < w2.heap.size by omega)).trans s_7_2
    have s_8_3 := (C3.out.cell (p := ⟨w.heap.size, 8, none⟩) (show w.heap.size < w2.heap.size by omega)).trans s_8_2
    clear s_0_2 s_1_2 s_2_2 s_3_2 s_4_2 s_5_2 s_6_2 s_7_2 s_8_2
    have O_w0_3 := Lib.hid ho0
    clear ho0
    go_wp2_with fail
    refine (toBandS_any b w3 ((H.out.below Bw3.out (Nat.le_refl _)).more Bw3.out.size) ((Hr.out.below Bw3.out (Nat.le_refl _)).more Bw3.out.size) (by omega) (by omega)).mono ?_
    rintro e w4 ⟨Ax, Rx, gsx, rfl, hgx1, hgx2, ho1, ho3, hb⟩
    have C4 := Lib.hid hb
    clear hb
    have t4 := C4.out.size
    have Bw4 := Lib.hid (Bw3.out.trans (C4.out.mono Bw3.out.size))
    have s_0_4 := (C4.out.cell (p := ⟨w.heap.size, 0, none⟩) (show w.heap.size < w3.heap.size by omega)).trans s_0_3
    have s_1_4 := (C4.out.cell (p := ⟨w.heap.size, 1, none⟩) (show w.heap.size < w3.heap.size by omega)).trans s_1_3
    have s_2_4 := (C4.out.cell (p := ⟨w.heap.size, 2, none⟩) (show w.heap.size < w3.heap.size by omega)).trans s_2_3
    have s_3_4 := (C4.out.cell (p := ⟨w.heap.size, 3, none⟩) (show w.heap.size < w3.heap.size by omega)).trans s_3_3
    have s_4_4 := (C4.out.cell (p := ⟨w.heap.size, 4, none⟩) (show w.heap.size < w3.heap.size by omega)).trans s_4_3
    have s_5_4 := (C4.out.cell (p := ⟨w.heap.size, 5, none⟩) (show w.heap.size < w3.heap.size by omega)).trans s_5_3
    have s_6_4 := (C4.out.cell (p := ⟨w.heap.size, 6, none⟩) (show w.heap.size < w3.heap.size by omega)).trans s_6_3
    have s_7_4 := (C4.out.cell (p := ⟨w.heap.size, 7, none⟩) (show w.heap.size < w3.heap.size by omega)).trans s_7_3
    have s_8_4 := (C4.out.cell (p := ⟨w.heap.size, 8, none⟩) (show w.heap.size < w3.heap.size by omega)).trans s_8_3
    clear s_0_3 s_1_3 s_2_3 s_3_3 s_4_3 s_5_3 s_6_3 s_7_3 s_8_3
    have O_w0_4 := Lib.hid (O_w0_3.out.later C4.out)
    clear O_w0_3
    have O_x0_a_4 := Lib.hid ho1
    have O_x0_r_4 := Lib.hid ho3
    clear ho1 ho3
    go_wp2_with fail
    have x_0_5 : (w4.alloc (.cells #[.string b.m.name, .int .i64 b.m.stage, .slice Ax b.m.x.length b.m.x.length, .string b.bob, .string b.sing, .int .i64 b.step, .string b.call, .string b.tru, .slice Rx b.rx.length b.rx.length] 54)).cell? ⟨w4.heap.size, 0, none⟩ = some (.string b.m.name) := by simp [go_sem]
    have x_1_5 : (w4.alloc (.cells #[.string b.m.name, .int .i64 b.m.stage, .slice Ax b.m.x.length b.m.x.length, .string b.bob, .string b.sing, .int .i64 b.step, .string b.call, .string b.tru, .slice Rx b.rx.length b.rx.length] 54)).cell? ⟨w4.heap.size, 1, none⟩ = some (.int .i64 b.m.stage) := by simp [go_sem]
    have x_2_5 : (w4.alloc (.cells #[.string b.m.name, .int .i64 b.m.stage, .slice Ax b.m.x.length b.m.x.length, .string b.bob, .string b.sing, .int .i64 b.step, .string b.call, .string b.tru, .slice Rx b.rx.length b.rx.length] 54)).cell? ⟨w4.heap.size, 2, none⟩ = some (.slice Ax b.m.x.length b.m.x.length) := by simp [go_sem]
    have x_3_5 : (w4.alloc (.cells #[.string b.m.name, .int .i64 b.m.stage, .slice Ax b.m.x.length b.m.x.length, .string b.bob, .string b.sing, .int .i64 b.step, .string b.call, .string b.tru, .slice Rx b.rx.length b.rx.length] 54)).cell? ⟨w4.heap.size, 3, none⟩ = some (.string b.bob) := by simp [go_sem]
    have x_4_5 : (w4.alloc (.cells #[.string b.m.name, .int .i64 b.m.stage, .slice Ax b.m.x.length b.m.x.length, .string b.bob, .string b.sing, .int .i64 b.step, .string b.call, .string b.tru, .slice Rx b.rx.length b.rx.length] 54)).cell? ⟨w4.heap.size, 4, none⟩ = some (.string b.sing) := by simp [go_sem]
    have x_5_5 : (w4.alloc (.cells #[.string b.m.name, .int .i64 b.m.stage, .slice Ax b.m.x.length b.m.x.length, .string b.bob, .string b.sing, .int .i64 b.step, .string b.call, .string b.tru, .slice Rx b.rx.length b.rx.length] 54)).cell? ⟨w4.heap.size, 5, none⟩ = some (.int .i64 b.step) := by simp [go_sem]
    have x_6_5 : (w4.alloc (.cells #[.string b.m.name, .int .i64 b.m.stage, .slice Ax b.m.x.length b.m.x.length, .string b.bob, .string b.sing, .int .i64 b.step, .string b.call, .string b.tru, .slice Rx b.rx.length b.rx.length] 54)).cell? ⟨w4.heap.size, 6, none⟩ = some (.string b.call) := by simp [go_sem]
    have x_7_5 : (w4.alloc (.cells #[.string b.m.name, .int .i64 b.m.stage, .slice Ax b.m.x.length b.m.x.length, .string b.bob, .string b.sing, .int .i64 b.step, .string b.call, .string b.tru, .slice Rx b.rx.length b.rx.length] 54)).cell? ⟨w4.heap.size, 7, none⟩ = some (.string b.tru) := by simp [go_sem]
    have x_8_5 : (w4.alloc (.cells #[.string b.m.name, .int .i64 b.m.stage, .slice Ax b.m.x.length b.m.x.length, .string b.bob, .string b.sing, .int .i64 b.step, .string b.call, .string b.tru, .slice Rx b.rx.length b.rx.length] 54)).cell? ⟨w4.heap.size, 8, none⟩ = some (.slice Rx b.rx.length b.rx.length) := by simp [go_sem]
    have t5 : w4.heap.size + 1 ≤ (w4.alloc (.cells #[.string b.m.name, .int .i64 b.m.stage, .slice Ax b.m.x.length b.m.x.length, .string b.bob, .string b.sing, .int .i64 b.step, .string b.call, .string b.tru, .slice Rx b.rx.length b.rx.length] 54)).heap.size := by simp
    have C5 : Hid (Below w4.heap.size w4 (w4.alloc (.cells #[.string b.m.name, .int .i64 b.m.stage, .slice Ax b.m.x.length b.m.x.length, .string b.bob, .string b.sing, .int .i64 b.step, .string b.call, .string b.tru, .slice Rx b.rx.length b.rx.length] 54))) := Lib.hid ((Below.refl _ _).alloc (Nat.le_refl _) _)
    generalize (w4.alloc (.cells #[.string b.m.name, .int .i64 b.m.stage, .slice Ax b.m.x.length b.m.x.length, .string b.bob, .string b.sing, .int .i64 b.step, .string b.call, .string b.tru, .slice Rx b.rx.length b.rx.length] 54)) = w5 at *
    have Bw5 := Lib.hid (Bw4.out.trans (C5.out.mono Bw4.out.size))
    have s_0_5 := (C5.out.cell (p := ⟨w.heap.size, 0, none⟩) (show w.heap.size < w4.heap.size by omega)).trans s_0_4
    have s_1_5 := (C5.out.cell (p := ⟨w.heap.size, 1, none⟩) (show w.heap.size < w4.heap.size by omega)).trans s_1_4
    have s_2_5 := (C5.out.cell (p := ⟨w.heap.size, 2, none⟩) (show w.heap.size < w4.heap.size by omega)).trans s_2_4
    have s_3_5 := (C5.out.cell (p := ⟨w.heap.size, 3, none⟩) (show w.heap.size < w4.heap.size by omega)).trans s_3_4
    have s_4_5 := (C5.out.cell (p := ⟨w.heap.size, 4, none⟩) (show w.heap.size < w4.heap.size by omega)).trans s_4_4
    have s_5_5 := (C5.out.cell (p := ⟨w.heap.size, 5, none⟩) (show w.heap.size < w4.heap.size by omega)).trans s_5_4
    have s_6_5 := (C5.out.cell (p := ⟨w.heap.size, 6, none⟩) (show w.heap.size < w4.heap.size by omega)).trans s_6_4
    have s_7_5 := (C5.out.cell (p := ⟨w.heap.size, 7, none⟩) (show w.heap.size < w4.heap.size by omega)).trans s_7_4
    have s_8_5 := (C5.out.cell (p := ⟨w.heap.size, 8, none⟩) (show w.heap.size < w4.heap.size by omega)).trans s_8_4
    clear s_0_4 s_1_4 s_2_4 s_3_4 s_4_4 s_5_4 s_6_4 s_7_4 s_8_4
    have O_w0_5 := Lib.hid (O_w0_4.out.later C5.out)
    clear O_w0_4
    have O_x0_a_5 := Lib.hid (O_x0_a_4.out.later C5.out)
    clear O_x0_a_4
    have O_x0_r_5 := Lib.hid (O_x0_r_4.out.later C5.out)
    clear O_x0_r_4
    have ok5 : Bnd.Ok ⟨⟨b.m.name, b.m.stage, b.m.x, Ax, b.m.x.length⟩, b.bob, b.sing, b.step, b.call, b.tru, b.rx, Rx, b.rx.length⟩ w5 := ⟨O_x0_a_5.out.rd encString_len, O_x0_r_5.out.rd Rgr_enc_len, by simp only; omega, by simp only; omega, M3.out, by simp only; omega, by simp only; omega, by simp only; omega, by simp only; omega, by simp only; omega⟩
    have OK5 := Lib.hid ok5
    clear ok5
    go_wp2_with fail
    refine (iPutRight_t ⟨⟨b.m.name, b.m.stage, b.m.x, Ax, b.m.x.length⟩, b.bob, b.sing, b.step, b.call, b.tru, b.rx, Rx, b.rx.length⟩ _ OK5.out HP.out).mono ?_
    rintro e w6 ⟨A_g0, c_g0, rfl, ho0, hb⟩
    have C6 := Lib.hid hb
    clear hb
    have t6 := C6.out.size
    have Bw6 := Lib.hid (Bw5.out.trans (C6.out.mono Bw5.out.size))
    have s_0_6 := (C6.out.cell (p := ⟨w.heap.size, 0, none⟩) (show w.heap.size < w5.heap.size by omega)).trans s_0_5
    have s_1_6 := (C6.out.cell (p := ⟨w.heap.size, 1, none⟩) (show w.heap.size < w5.heap.size by omega)).trans s_1_5
    have s_2_6 := (C6.out.cell (p := ⟨w.heap.size, 2, none⟩) (show w.heap.size < w5.heap.size by omega)).trans s_2_5
    have s_3_6 := (C6.out.cell (p := ⟨w.heap.size, 3, none⟩) (show w.heap.size < w5.heap.size by omega)).trans s_3_5
    have s_4_6 := (C6.out.cell (p := ⟨w.heap.size, 4, none⟩) (show w.heap.size < w5.heap.size by omega)).trans s_4_5
    have s_5_6 := (C6.out.cell (p := ⟨w.heap.size, 5, none⟩) (show w.heap.size < w5.heap.size by omega)).trans s_5_5
    have s_6_6 := (C6.out.cell (p := ⟨w.heap.size, 6, none⟩) (show w.heap.size < w5.heap.size by omega)).trans s_6_5
    have s_7_6 := (C6.out.cell (p := ⟨w.heap.size, 7, none⟩) (show w.heap.size < w5.heap.size by omega)).trans s_7_5
    have s_8_6 := (C6.out.cell (p := ⟨w.heap.size, 8, none⟩) (show w.heap.size < w5.heap.size by omega)).trans s_8_5
    clear s_0_5 s_1_5 s_2_5 s_3_5 s_4_5 s_5_5 s_6_5 s_7_5 s_8_5
    have x_0_6 := (C6.out.cell (p := ⟨w4.heap.size, 0, none⟩) (show w4.heap.size < w5.heap.size by omega)).trans x_0_5
    have x_1_6 := (C6.out.cell (p := ⟨w4.heap.size, 1, none⟩) (show w4.heap.size < w5.heap.size by omega)).trans x_1_5
    have x_2_6 := (C6.out.cell (p := ⟨w4.heap.size, 2, none⟩) (show w4.heap.size < w5.heap.size by omega)).trans x_2_5
    have x_3_6 := (C6.out.cell (p := ⟨w4.heap.size, 3, none⟩) (show w4.heap.size < w5.heap.size by omega)).trans x_3_5
    have x_4_6 := (C6.out.cell (p := ⟨w4.heap.size, 4, none⟩) (show w4.heap.size < w5.heap.size by omega)).trans x_4_5
    have x_5_6 := (C6.out.cell (p := ⟨w4.heap.size, 5, none⟩) (show w4.heap.size < w5.heap.size by omega)).trans x_5_5
    have x_6_6 := (C6.out.cell (p := ⟨w4.heap.size, 6, none⟩) (show w4.heap.size < w5.heap.size by omega)).trans x_6_5
    have x_7_6 := (C6.out.cell (p := ⟨w4.heap.size, 7, none⟩) (show w4.heap.size < w5.heap.size by omega)).trans x_7_5
    have x_8_6 := (C6.out.cell (p := ⟨w4.heap.size, 8, none⟩) (show w4.heap.size < w5.heap.size by omega)).trans x_8_5
    clear x_0_5 x_1_5 x_2_5 x_3_5 x_4_5 x_5_5 x_6_5 x_7_5 x_8_5
    have O_w0_6 := Lib.hid (O_w0_5.out.later C6.out)
    clear O_w0_5
    have O_x0_a_6 := Lib.hid (O_x0_a_5.out.later C6.out)
    clear O_x0_a_5
    have O_x0_r_6 := Lib.hid (O_x0_r_5.out.later C6.out)
    clear O_x0_r_5
    have O_g0_6 := Lib.hid ho0
    clear ho0
    go_wp2_with fail
    refine (eqRingActS_t (tellL (wrongTo b.tru b.rx b.rx.length)) A_g0 A_w0 c_g0 c_w0 _ (O_g0_6.out.rd Act__enc_len) (O_w0_6.out.rd Act__enc_len) (by omega)).mono ?_
    rintro e w7 ⟨rfl, hb⟩
    have C7 := Lib.hid hb
    clear hb
    have t7 := C7.out.size
    have Bw7 := Lib.hid (Bw6.out.trans (C7.out.mono Bw6.out.size))
    have s_0_7 := (C7.out.cell (p := ⟨w.heap.size, 0, none⟩) (show w.heap.size < w6.heap.size by omega)).trans s_0_6
    have s_1_7 := (C7.out.cell (p := ⟨w.heap.size, 1, none⟩) (show w.heap.size < w6.heap.size by omega)).trans s_1_6
    have s_2_7 := (C7.out.cell (p := ⟨w.heap.size, 2, none⟩) (show w.heap.size < w6.heap.size by omega)).trans s_2_6
    have s_3_7 := (C7.out.cell (p := ⟨w.heap.size, 3, none⟩) (show w.heap.size < w6.heap.size by omega)).trans s_3_6
    have s_4_7 := (C7.out.cell (p := ⟨w.heap.size, 4, none⟩) (show w.heap.size < w6.heap.size by omega)).trans s_4_6
    have s_5_7 := (C7.out.cell (p := ⟨w.heap.size, 5, none⟩) (show w.heap.size < w6.heap.size by omega)).trans s_5_6
    have s_6_7 := (C7.out.cell (p := ⟨w.heap.size, 6, none⟩) (show w.heap.size < w6.heap.size by omega)).trans s_6_6
    have s_7_7 := (C7.out.cell (p := ⟨w.heap.size, 7, none⟩) (show w.heap.size < w6.heap.size by omega)).trans s_7_6
    have s_8_7 := (C7.out.cell (p := ⟨w.heap.size, 8, none⟩) (show w.heap.size < w6.heap.size by omega)).trans s_8_6
    clear s_0_6 s_1_6 s_2_6 s_3_6 s_4_6 s_5_6 s_6_6 s_7_6 s_8_6
    have x_0_7 := (C7.out.cell (p := ⟨w4.heap.size, 0, none⟩) (show w4.heap.size < w6.heap.size by omega)).trans x_0_6
    have x_1_7 := (C7.out.cell (p := ⟨w4.heap.size, 1, none⟩) (show w4.heap.size < w6.heap.size by omega)).trans x_1_6
    have x_2_7 := (C7.out.cell (p := ⟨w4.heap.size, 2, none⟩) (show w4.heap.size < w6.heap.size by omega)).trans x_2_6
    have x_3_7 := (C7.out.cell (p := ⟨w4.heap.size, 3, none⟩) (show w4.heap.size < w6.heap.size by omega)).trans x_3_6
    have x_4_7 := (C7.out.cell (p := ⟨w4.heap.size, 4, none⟩) (show w4.heap.size < w6.heap.size by omega)).trans x_4_6
    have x_5_7 := (C7.out.cell (p := ⟨w4.heap.size, 5, none⟩) (show w4.heap.size < w6.heap.size by omega)).trans x_5_6
    have x_6_7 := (C7.out.cell (p := ⟨w4.heap.size, 6, none⟩) (show w4.heap.size < w6.heap.size by omega)).trans x_6_6
    have x_7_7 := (C7.out.cell (p := ⟨w4.heap.size, 7, none⟩) (show w4.heap.size < w6.heap.size by omega)).trans x_7_6
    have x_8_7 := (C7.out.cell (p := ⟨w4.heap.size, 8, none⟩) (show w4.heap.size < w6.heap.size by omega)).trans x_8_6
    clear x_0_6 x_1_6 x_2_6 x_3_6 x_4_6 x_5_6 x_6_6 x_7_6 x_8_6
    have O_w0_7 := Lib.hid (O_w0_6.out.later C7.out)
    clear O_w0_6
    have O_x0_a_7 := Lib.hid (O_x0_a_6.out.later C7.out)
    clear O_x0_a_6
    have O_x0_r_7 := Lib.hid (O_x0_r_6.out.later C7.out)
    clear O_x0_r_6
    have O_g0_7 := Lib.hid (O_g0_6.out.later C7.out)
    clear O_g0_6
    go_wp2_with fail
    go_region_held3 (fun w' => w'.cell? ⟨w4.heap.size, 0, none⟩ = some (.string b.m.name) ∧ w'.cell? ⟨w4.heap.size, 1, none⟩ = some (.int .i64 b.m.stage) ∧ w'.cell? ⟨w4.heap.size, 2, none⟩ = some (.slice Ax b.m.x.length b.m.x.length) ∧ w'.cell? ⟨w4.heap.size, 3, none⟩ = some (.string b.bob) ∧ w'.cell? ⟨w4.heap.size, 4, none⟩ = some (.string b.sing) ∧ w'.cell? ⟨w4.heap.size, 5, none⟩ = some (.int .i64 b.step) ∧ w'.cell? ⟨w4.heap.size, 6, none⟩ = some (.string b.call) ∧ w'.cell? ⟨w4.heap.size, 7, none⟩ = some (.string b.tru) ∧ w'.cell? ⟨w4.heap.size, 8, none⟩ = some (.slice Rx b.rx.length b.rx.length) ∧ w'.cell? ⟨w.heap.size, 0, none⟩ = some (.string b.m.name) ∧ w'.cell? ⟨w.heap.size, 1, none⟩ = some (.int .i64 b.m.stage) ∧ w'.cell? ⟨w.heap.size, 2, none⟩ = some (.slice b.m.A b.m.x.length b.m.c) ∧ w'.cell? ⟨w.heap.size, 3, none⟩ = some (.string b.bob) ∧ w'.cell? ⟨w.heap.size, 4, none⟩ = some (.string b.sing) ∧ w'.cell? ⟨w.heap.size, 5, none⟩ = some (.int .i64 b.step) ∧ w'.cell? ⟨w.heap.size, 6, none⟩ = some (.string b.call) ∧ w'.cell? ⟨w.heap.size, 7, none⟩ = some (.string b.tru) ∧ w'.cell? ⟨w.heap.size, 8, none⟩ = some (.slice b.RA b.rx.length b.rc)) (first | exact ⟨x_0_7, x_1_7, x_2_7, x_3_7, x_4_7, x_5_7, x_6_7, x_7_7, x_8_7, s_0_7, s_1_7, s_2_7, s_3_7, s_4_7, s_5_7, s_6_7, s_7_7, s_8_7⟩ | exact ⟨yx_0, yx_1, yx_2, yx_3, yx_4, yx_5, yx_6, yx_7, yx_8, ys_0, ys_1, ys_2, ys_3, ys_4, ys_5, ys_6, ys_7, ys_8⟩ | exact ⟨zx_0, zx_1, zx_2, zx_3, zx_4, zx_5, zx_6, zx_7, zx_8, zs_0, zs_1, zs_2, zs_3, zs_4, zs_5, zs_6, zs_7, zs_8⟩ | go_keep) (first | (go_at_call 28; refine (toBand_any b _ (show RdL w7.drew w7.drew.heap.size b.m.A 1 encString b.m.x from ((H.out.below Bw7.out (Nat.le_refl _)).more Bw7.out.size)) (show RdL w7.drew w7.drew.heap.size b.RA 2 Rgr.enc b.rx from ((Hr.out.below Bw7.out (Nat.le_refl _)).more Bw7.out.size)) (by omega) (by omega)).mono ?_; rintro e wa ⟨Ay, Ry, rfl, hq1, hq3, hba⟩; have yx_0 : wa.cell? ⟨w4.heap.size, 0, none⟩ = some (.string b.m.name) := (hba.cell (p := ⟨w4.heap.size, 0, none⟩) (show w4.heap.size < w7.heap.size by omega)).trans x_0_7; have yx_1 : wa.cell? ⟨w4.heap.size, 1, none⟩ = some (.int .i64 b.m.stage) := (hba.cell (p := ⟨w4.heap.size, 1, none⟩) (show w4.heap.size < w7.heap.size by omega)).trans x_1_7; have yx_2 : wa.cell? ⟨w4.heap.size, 2, none⟩ = some (.slice Ax b.m.x.length b.m.x.length) := (hba.cell (p := ⟨w4.heap.size, 2, none⟩) (show w4.heap.size < w7.heap.size by omega)).trans x_2_7; have yx_3 : wa.cell? ⟨w4.heap.size, 3, none⟩ = some (.string b.bob) := (hba.cell (p := ⟨w4.heap.size, 3, none⟩) (show w4.heap.size < w7.heap.size by omega)).trans x_3_7; have yx_4 : wa.cell? ⟨w4.heap.size, 4, none⟩ = some (.string b.sing) := (hba.cell (p := ⟨w4.heap.size, 4, none⟩) (show w4.heap.size < w7.heap.size by omega)).trans x_4_7; have yx_5 : wa.cell? ⟨w4.heap.size, 5, none⟩ = some (.int .i64 b.step) := (hba.cell (p := ⟨w4.heap.size, 5, none⟩) (show w4.heap.size < w7.heap.size by omega)).trans x_5_7; have yx_6 : wa.cell? ⟨w4.heap.size, 6, none⟩ = some (.string b.call) := (hba.cell (p := ⟨w4.heap.size, 6, none⟩) (show w4.heap.size < w7.heap.size by omega)).trans x_6_7; have yx_7 : wa.cell? ⟨w4.heap.size, 7, none⟩ = some (.string b.tru) := (hba.cell (p := ⟨w4.heap.size, 7, none⟩) (show w4.heap.size < w7.heap.size by omega)).trans x_7_7; have yx_8 : wa.cell? ⟨w4.heap.size, 8, none⟩ = some (.slice Rx b.rx.length b.rx.length) := (hba.cell (p := ⟨w4.heap.size, 8, none⟩) (show w4.heap.size < w7.heap.size by omega)).trans x_8_7; have ys_0 : wa.cell? ⟨w.heap.size, 0, none⟩ = some (.string b.m.name) := (hba.cell (p := ⟨w.heap.size, 0, none⟩) (show w.heap.size < w7.heap.size by omega)).trans s_0_7; have ys_1 : wa.cell? ⟨w.heap.size, 1, none⟩ = some (.int .i64 b.m.stage) := (hba.cell (p := ⟨w.heap.size, 1, none⟩) (show w.heap.size < w7.heap.size by omega)).trans s_1_7; have ys_2 : wa.cell? ⟨w.heap.size, 2, none⟩ = some (.slice b.m.A b.m.x.length b.m.c) := (hba.cell (p := ⟨w.heap.size, 2, none⟩) (show w.heap.size < w7.heap.size by omega)).trans s_2_7; have ys_3 : wa.cell? ⟨w.heap.size, 3, none⟩ = some (.string b.bob) := (hba.cell (p := ⟨w.heap.size, 3, none⟩) (show w.heap.size < w7.heap.size by omega)).trans s_3_7; have ys_4 : wa.cell? ⟨w.heap.size, 4, none⟩ = some (.string b.sing) := (hba.cell (p := ⟨w.heap.size, 4, none⟩) (show w.heap.size < w7.heap.size by omega)).trans s_4_7; have ys_5 : wa.cell? ⟨w.heap.size, 5, none⟩ = some (.int .i64 b.step) := (hba.cell (p := ⟨w.heap.size, 5, none⟩) (show w.heap.size < w7.heap.size by omega)).trans s_5_7; have ys_6 : wa.cell? ⟨w.heap.size, 6, none⟩ = some (.string b.call) := (hba.cell (p := ⟨w.heap.size, 6, none⟩) (show w.heap.size < w7.heap.size by omega)).trans s_6_7; have ys_7 : wa.cell? ⟨w.heap.size, 7, none⟩ = some (.string b.tru) := (hba.cell (p := ⟨w.heap.size, 7, none⟩) (show w.heap.size < w7.heap.size by omega)).trans s_7_7; have ys_8 : wa.cell? ⟨w.heap.size, 8, none⟩ = some (.slice b.RA b.rx.length b.rc) := (hba.cell (p := ⟨w.heap.size, 8, none⟩) (show w.heap.size < w7.heap.size by omega)).trans s_8_7; have HBa : Hid (Below w7.heap.size w7 wa) := Lib.hid ((Below.refl _ _).drew.trans hba); have Hq1 := Lib.hid hq1; have Hq3 := Lib.hid hq3; have Hq5 := Lib.hid (O_x0_a_7.out.later HBa.out); have Hq7 := Lib.hid (O_x0_r_7.out.later HBa.out); clear hq1 hq3 hba) | (go_at_call 30; refine (eqBand_t ⟨⟨b.m.name, b.m.stage, b.m.x, Ax, b.m.x.length⟩, b.bob, b.sing, b.step, b.call, b.tru, b.rx, Rx, b.rx.length⟩ Ay Ry b.m.x.length b.rx.length wa (Hq5.out.rd encString_len) (Hq1.out.rd encString_len) (Hq7.out.rd Rgr_enc_len) (Hq3.out.rd Rgr_enc_len) (by simp only; omega) (by simp only; omega)).mono ?_; rintro e w8 ⟨rfl, hbb⟩; have hya := HBa.out.size; have zx_0 : w8.cell? ⟨w4.heap.size, 0, none⟩ = some (.string b.m.name) := (hbb.cell (p := ⟨w4.heap.size, 0, none⟩) (show w4.heap.size < wa.heap.size by omega)).trans yx_0; have zx_1 : w8.cell? ⟨w4.heap.size, 1, none⟩ = some (.int .i64 b.m.stage) := (hbb.cell (p := ⟨w4.heap.size, 1, none⟩) (show w4.heap.size < wa.heap.size by omega)).trans yx_1; have zx_2 : w8.cell? ⟨w4.heap.size, 2, none⟩ = some (.slice Ax b.m.x.length b.m.x.length) := (hbb.cell (p := ⟨w4.heap.size, 2, none⟩) (show w4.heap.size < wa.heap.size by omega)).trans yx_2; have zx_3 : w8.cell? ⟨w4.heap.size, 3, none⟩ = some (.string b.bob) := (hbb.cell (p := ⟨w4.heap.size, 3, none⟩) (show w4.heap.size < wa.heap.size by omega)).trans yx_3; have zx_4 : w8.cell? ⟨w4.heap.size, 4, none⟩ = some (.string b.sing) := (hbb.cell (p := ⟨w4.heap.size, 4, none⟩) (show w4.heap.size < wa.heap.size by omega)).trans yx_4; have zx_5 : w8.cell? ⟨w4.heap.size, 5, none⟩ = some (.int .i64 b.step) := (hbb.cell (p := ⟨w4.heap.size, 5, none⟩) (show w4.heap.size < wa.heap.size by omega)).trans yx_5; have zx_6 : w8.cell? ⟨w4.heap.size, 6, none⟩ = some (.string b.call) := (hbb.cell (p := ⟨w4.heap.size, 6, none⟩) (show w4.heap.size < wa.heap.size by omega)).trans yx_6; have zx_7 : w8.cell? ⟨w4.heap.size, 7, none⟩ = some (.string b.tru) := (hbb.cell (p := ⟨w4.heap.size, 7, none⟩) (show w4.heap.size < wa.heap.size by omega)).trans yx_7; have zx_8 : w8.cell? ⟨w4.heap.size, 8, none⟩ = some (.slice Rx b.rx.length b.rx.length) := (hbb.cell (p := ⟨w4.heap.size, 8, none⟩) (show w4.heap.size < wa.heap.size by omega)).trans yx_8; have zs_0 : w8.cell? ⟨w.heap.size, 0, none⟩ = some (.string b.m.name) := (hbb.cell (p := ⟨w.heap.size, 0, none⟩) (show w.heap.size < wa.heap.size by omega)).trans ys_0; have zs_1 : w8.cell? ⟨w.heap.size, 1, none⟩ = some (.int .i64 b.m.stage) := (hbb.cell (p := ⟨w.heap.size, 1, none⟩) (show w.heap.size < wa.heap.size by omega)).trans ys_1; have zs_2 : w8.cell? ⟨w.heap.size, 2, none⟩ = some (.slice b.m.A b.m.x.length b.m.c) := (hbb.cell (p := ⟨w.heap.size, 2, none⟩) (show w.heap.size < wa.heap.size by omega)).trans ys_2; have zs_3 : w8.cell? ⟨w.heap.size, 3, none⟩ = some (.string b.bob) := (hbb.cell (p := ⟨w.heap.size, 3, none⟩) (show w.heap.size < wa.heap.size by omega)).trans ys_3; have zs_4 : w8.cell? ⟨w.heap.size, 4, none⟩ = some (.string b.sing) := (hbb.cell (p := ⟨w.heap.size, 4, none⟩) (show w.heap.size < wa.heap.size by omega)).trans ys_4; have zs_5 : w8.cell? ⟨w.heap.size, 5, none⟩ = some (.int .i64 b.step) := (hbb.cell (p := ⟨w.heap.size, 5, none⟩) (show w.heap.size < wa.heap.size by omega)).trans ys_5; have zs_6 : w8.cell? ⟨w.heap.size, 6, none⟩ = some (.string b.call) := (hbb.cell (p := ⟨w.heap.size, 6, none⟩) (show w.heap.size < wa.heap.size by omega)).trans ys_6; have zs_7 : w8.cell? ⟨w.heap.size, 7, none⟩ = some (.string b.tru) := (hbb.cell (p := ⟨w.heap.size, 7, none⟩) (show w.heap.size < wa.heap.size by omega)).trans ys_7; have zs_8 : w8.cell? ⟨w.heap.size, 8, none⟩ = some (.slice b.RA b.rx.length b.rc) := (hbb.cell (p := ⟨w.heap.size, 8, none⟩) (show w.heap.size < wa.heap.size by omega)).trans ys_8))
    have hb : Below w7.heap.size w7 w8 := HBa.out.trans (hbb.mono HBa.out.size)
    clear hbb yx_0 ys_0 zx_0 zs_0 yx_1 ys_1 zx_1 zs_1 yx_2 ys_2 zx_2 zs_2 yx_3 ys_3 zx_3 zs_3 yx_4 ys_4 zx_4 zs_4 yx_5 ys_5 zx_5 zs_5 yx_6 ys_6 zx_6 zs_6 yx_7 ys_7 zx_7 zs_7 yx_8 ys_8 zx_8 zs_8
    have C8 := Lib.hid hb
    clear hb
    have t8 := C8.out.size
    have Bw8 := Lib.hid (Bw7.out.trans (C8.out.mono Bw7.out.size))
    have s_0_8 := (C8.out.cell (p := ⟨w.heap.size, 0, none⟩) (show w.heap.size < w7.heap.size by omega)).trans s_0_7
    have s_1_8 := (C8.out.cell (p := ⟨w.heap.size, 1, none⟩) (show w.heap.size < w7.heap.size by omega)).trans s_1_7
    have s_2_8 := (C8.out.cell (p := ⟨w.heap.size, 2, none⟩) (show w.heap.size < w7.heap.size by omega)).trans s_2_7
    have s_3_8 := (C8.out.cell (p := ⟨w.heap.size, 3, none⟩) (show w.heap.size < w7.heap.size by omega)).trans s_3_7
    have s_4_8 := (C8.out.cell (p := ⟨w.heap.size, 4, none⟩) (show w.heap.size < w7.heap.size by omega)).trans s_4_7
    have s_5_8 := (C8.out.cell (p := ⟨w.heap.size, 5, none⟩) (show w.heap.size < w7.heap.size by omega)).trans s_5_7
    have s_6_8 := (C8.out.cell (p := ⟨w.heap.size, 6, none⟩) (show w.heap.size < w7.heap.size by omega)).trans s_6_7
    have s_7_8 := (C8.out.cell (p := ⟨w.heap.size, 7, none⟩) (show w.heap.size < w7.heap.size by omega)).trans s_7_7
    have s_8_8 := (C8.out.cell (p := ⟨w.heap.size, 8, none⟩) (show w.heap.size < w7.heap.size by omega)).trans s_8_7
    clear s_0_7 s_1_7 s_2_7 s_3_7 s_4_7 s_5_7 s_6_7 s_7_7 s_8_7
    have x_0_8 := (C8.out.cell (p := ⟨w4.heap.size, 0, none⟩) (show w4.heap.size < w7.heap.size by omega)).trans x_0_7
    have x_1_8 := (C8.out.cell (p := ⟨w4.heap.size, 1, none⟩) (show w4.heap.size < w7.heap.size by omega)).trans x_1_7
    have x_2_8 := (C8.out.cell (p := ⟨w4.heap.size, 2, none⟩) (show w4.heap.size < w7.heap.size by omega)).trans x_2_7
    have x_3_8 := (C8.out.cell (p := ⟨w4.heap.size, 3, none⟩) (show w4.heap.size < w7.heap.size by omega)).trans x_3_7
    have x_4_8 := (C8.out.cell (p := ⟨w4.heap.size, 4, none⟩) (show w4.heap.size < w7.heap.size by omega)).trans x_4_7
    have x_5_8 := (C8.out.cell (p := ⟨w4.heap.size, 5, none⟩) (show w4.heap.size < w7.heap.size by omega)).trans x_5_7
    have x_6_8 := (C8.out.cell (p := ⟨w4.heap.size, 6, none⟩) (show w4.heap.size < w7.heap.size by omega)).trans x_6_7
    have x_7_8 := (C8.out.cell (p := ⟨w4.heap.size, 7, none⟩) (show w4.heap.size < w7.heap.size by omega)).trans x_7_7
    have x_8_8 := (C8.out.cell (p := ⟨w4.heap.size, 8, none⟩) (show w4.heap.size < w7.heap.size by omega)).trans x_8_7
    clear x_0_7 x_1_7 x_2_7 x_3_7 x_4_7 x_5_7 x_6_7 x_7_7 x_8_7
    have O_w0_8 := Lib.hid (O_w0_7.out.later C8.out)
    clear O_w0_7
    have O_x0_a_8 := Lib.hid (O_x0_a_7.out.later C8.out)
    clear O_x0_a_7
    have O_x0_r_8 := Lib.hid (O_x0_r_7.out.later C8.out)
    clear O_x0_r_7
    have O_g0_8 := Lib.hid (O_g0_7.out.later C8.out)
    clear O_g0_7
    go_wp2_with fail
    refine (markBand_any ⟨⟨b.m.name, b.m.stage, b.m.x, Ax, b.m.x.length⟩, b.bob, b.sing, b.step, b.call, b.tru, b.rx, Rx, b.rx.length⟩ w3.heap.size gsx w4.heap.size 1 _ O_x0_a_8.out O_x0_r_8.out hgx1 hgx2 (by omega) (by simp only; omega) (by simp only; omega) (by omega) (by omega)).mono ?_
    rintro e w9 ⟨he, hc⟩
    obtain ⟨qx, hqx⟩ : ∃ q : Nat, q = 1 + b.m.x.length + b.rx.length * 2 := ⟨_, rfl⟩
    have he2 : e = .returned (.int .i64 (qx : Int)) := by rw [hqx]; exact he
    subst he2
    clear he hqx
    have C9 := Lib.hid hc
    clear hc
    have t9 := C9.out.size
    have Bw9 := Lib.hid (Below.chg Bw8.out C9.out (by omega) Bw8.out.size)
    have s_0_9 := (C9.out.cell (p := ⟨w.heap.size, 0, none⟩) (show w.heap.size < w8.heap.size by omega) (show w.heap.size < w3.heap.size ∨ w4.heap.size ≤ w.heap.size by omega)).trans s_0_8
    have s_1_9 := (C9.out.cell (p := ⟨w.heap.size, 1, none⟩) (show w.heap.size < w8.heap.size by omega) (show w.heap.size < w3.heap.size ∨ w4.heap.size ≤ w.heap.size by omega)).trans s_1_8
    have s_2_9 := (C9.out.cell (p := ⟨w.heap.size, 2, none⟩) (show w.heap.size < w8.heap.size by omega) (show w.heap.size < w3.heap.size ∨ w4.heap.size ≤ w.heap.size by omega)).trans s_2_8
    have s_3_9 := (C9.out.cell (p := ⟨w.heap.size, 3, none⟩) (show w.heap.size < w8.heap.size by omega) (show w.heap.size < w3.heap.size ∨ w4.heap.size ≤ w.heap.size by omega)).trans s_3_8
    have s_4_9 := (C9.out.cell (p := ⟨w.heap.size, 4, none⟩) (show w.heap.size < w8.heap.size by omega) (show w.heap.size < w3.heap.size ∨ w4.heap.size ≤ w.heap.size by omega)).trans s_4_8
    have s_5_9 := (C9.out.cell (p := ⟨w.heap.size, 5, none⟩) (show w.heap.size < w8.heap.size by omega) (show w.heap.size < w3.heap.size ∨ w4.heap.size ≤ w.heap.size by omega)).trans s_5_8
    have s_6_9 := (C9.out.cell (p := ⟨w.heap.size, 6, none⟩) (show w.heap.size < w8.heap.size by omega) (show w.heap.size < w3.heap.size ∨ w4.heap.size ≤ w.heap.size by omega)).trans s_6_8
    have s_7_9 := (C9.out.cell (p := ⟨w.heap.size, 7, none⟩) (show w.heap.size < w8.heap.size by omega) (show w.heap.size < w3.heap.size ∨ w4.heap.size ≤ w.heap.size by omega)).trans s_7_8
    have s_8_9 := (C9.out.cell (p := ⟨w.heap.size, 8, none⟩) (show w.heap.size < w8.heap.size by omega) (show w.heap.size < w3.heap.size ∨ w4.heap.size ≤ w.heap.size by omega)).trans s_8_8
    clear s_0_8 s_1_8 s_2_8 s_3_8 s_4_8 s_5_8 s_6_8 s_7_8 s_8_8
    have x_0_9 := (C9.out.cell (p := ⟨w4.heap.size, 0, none⟩) (show w4.heap.size < w8.heap.size by omega) (show w4.heap.size < w3.heap.size ∨ w4.heap.size ≤ w4.heap.size by omega)).trans x_0_8
    have x_1_9 := (C9.out.cell (p := ⟨w4.heap.size, 1, none⟩) (show w4.heap.size < w8.heap.size by omega) (show w4.heap.size < w3.heap.size ∨ w4.heap.size ≤ w4.heap.size by omega)).trans x_1_8
    have x_2_9 := (C9.out.cell (p := ⟨w4.heap.size, 2, none⟩) (show w4.heap.size < w8.heap.size by omega) (show w4.heap.size < w3.heap.size ∨ w4.heap.size ≤ w4.heap.size by omega)).trans x_2_8
    have x_3_9 := (C9.out.cell (p := ⟨w4.heap.size, 3, none⟩) (show w4.heap.size < w8.heap.size by omega) (show w4.heap.size < w3.heap.size ∨ w4.heap.size ≤ w4.heap.size by omega)).trans x_3_8
    have x_4_9 := (C9.out.cell (p := ⟨w4.heap.size, 4, none⟩) (show w4.heap.size < w8.heap.size by omega) (show w4.heap.size < w3.heap.size ∨ w4.heap.size ≤ w4.heap.size by omega)).trans x_4_8
    have x_5_9 := (C9.out.cell (p := ⟨w4.heap.size, 5, none⟩) (show w4.heap.size < w8.heap.size by omega) (show w4.heap.size < w3.heap.size ∨ w4.heap.size ≤ w4.heap.size by omega)).trans x_5_8
    have x_6_9 := (C9.out.cell (p := ⟨w4.heap.size, 6, none⟩) (show w4.heap.size < w8.heap.size by omega) (show w4.heap.size < w3.heap.size ∨ w4.heap.size ≤ w4.heap.size by omega)).trans x_6_8
    have x_7_9 := (C9.out.cell (p := ⟨w4.heap.size, 7, none⟩) (show w4.heap.size < w8.heap.size by omega) (show w4.heap.size < w3.heap.size ∨ w4.heap.size ≤ w4.heap.size by omega)).trans x_7_8
    have x_8_9 := (C9.out.cell (p := ⟨w4.heap.size, 8, none⟩) (show w4.heap.size < w8.heap.size by omega) (show w4.heap.size < w3.heap.size ∨ w4.heap.size ≤ w4.heap.size by omega)).trans x_8_8
    clear x_0_8 x_1_8 x_2_8 x_3_8 x_4_8 x_5_8 x_6_8 x_7_8 x_8_8
    have O_w0_9 := Lib.hid (O_w0_8.out.chg C9.out (by omega))
    clear O_w0_8
    have O_g0_9 := Lib.hid (O_g0_8.out.chg C9.out (by omega))
    clear O_g0_8
    go_wp2_with fail
    refine (eqRingActS_t (tellL (wrongTo b.tru b.rx b.rx.length)) A_g0 A_w0 c_g0 c_w0 _ (O_g0_9.out.rd Act__enc_len) (O_w0_9.out.rd Act__enc_len) (by omega)).mono ?_
    rintro e w10 ⟨rfl, hb⟩
    have C10 := Lib.hid hb
    clear hb
    have t10 := C10.out.size
    have Bw10 := Lib.hid (Bw9.out.trans (C10.out.mono Bw9.out.size))
    have s_0_10 := (C10.out.cell (p := ⟨w.heap.size, 0, none⟩) (show w.heap.size < w9.heap.size by omega)).trans s_0_9
    have s_1_10 := (C10.out.cell (p := ⟨w.heap.size, 1, none⟩) (show w.heap.size < w9.heap.size by omega)).trans s_1_9
    have s_2_10 := (C10.out.cell (p := ⟨w.heap.size, 2, none⟩) (show w.heap.size < w9.heap.size by omega)).trans s_2_9
    have s_3_10 := (C10.out.cell (p := ⟨w.heap.size, 3, none⟩) (show w.heap.size < w9.heap.size by omega)).trans s_3_9
    have s_4_10 := (C10.out.cell (p := ⟨w.heap.size, 4, none⟩) (show w.heap.size < w9.heap.size by omega)).trans s_4_9
    have s_5_10 := (C10.out.cell (p := ⟨w.heap.size, 5, none⟩) (show w.heap.size < w9.heap.size by omega)).trans s_5_9
    have s_6_10 := (C10.out.cell (p := ⟨w.heap.size, 6, none⟩) (show w.heap.size < w9.heap.size by omega)).trans s_6_9
    have s_7_10 := (C10.out.cell (p := ⟨w.heap.size, 7, none⟩) (show w.heap.size < w9.heap.size by omega)).trans s_7_9
    have s_8_10 := (C10.out.cell (p := ⟨w.heap.size, 8, none⟩) (show w.heap.size < w9.heap.size by omega)).trans s_8_9
    clear s_0_9 s_1_9 s_2_9 s_3_9 s_4_9 s_5_9 s_6_9 s_7_9 s_8_9
    have x_0_10 := (C10.out.cell (p := ⟨w4.heap.size, 0, none⟩) (show w4.heap.size < w9.heap.size by omega)).trans x_0_9
    have x_1_10 := (C10.out.cell (p := ⟨w4.heap.size, 1, none⟩) (show w4.heap.size < w9.heap.size by omega)).trans x_1_9
    have x_2_10 := (C10.out.cell (p := ⟨w4.heap.size, 2, none⟩) (show w4.heap.size < w9.heap.size by omega)).trans x_2_9
    have x_3_10 := (C10.out.cell (p := ⟨w4.heap.size, 3, none⟩) (show w4.heap.size < w9.heap.size by omega)).trans x_3_9
    have x_4_10 := (C10.out.cell (p := ⟨w4.heap.size, 4, none⟩) (show w4.heap.size < w9.heap.size by omega)).trans x_4_9
    have x_5_10 := (C10.out.cell (p := ⟨w4.heap.size, 5, none⟩) (show w4.heap.size < w9.heap.size by omega)).trans x_5_9
    have x_6_10 := (C10.out.cell (p := ⟨w4.heap.size, 6, none⟩) (show w4.heap.size < w9.heap.size by omega)).trans x_6_9
    have x_7_10 := (C10.out.cell (p := ⟨w4.heap.size, 7, none⟩) (show w4.heap.size < w9.heap.size by omega)).trans x_7_9
    have x_8_10 := (C10.out.cell (p := ⟨w4.heap.size, 8, none⟩) (show w4.heap.size < w9.heap.size by omega)).trans x_8_9
    clear x_0_9 x_1_9 x_2_9 x_3_9 x_4_9 x_5_9 x_6_9 x_7_9 x_8_9
    have O_w0_10 := Lib.hid (O_w0_9.out.later C10.out)
    clear O_w0_9
    have O_g0_10 := Lib.hid (O_g0_9.out.later C10.out)
    clear O_g0_9
    go_wp2_with fail
    refine (markRingActS_any (tellL (wrongTo b.tru b.rx b.rx.length)) _ _ A_g0 c_g0 1 _ O_g0_10.out (by omega) (by omega) (by omega)).mono ?_
    rintro e w11 ⟨he, ho, hc⟩
    obtain ⟨q11, hq⟩ : ∃ q : Nat, q = 1 + (tellL (wrongTo b.tru b.rx b.rx.length)).length * 4 := ⟨_, rfl⟩
    rw [← hq] at he
    subst he
    have Hq11 := Lib.hid hq
    clear hq
    have C11 := Lib.hid hc
    clear hc
    have t11 := C11.out.size
    have Bw11 := Lib.hid (Below.chg Bw10.out C11.out (by omega) Bw10.out.size)
    have s_0_11 := (C11.out.cell (p := ⟨w.heap.size, 0, none⟩) (show w.heap.size < w10.heap.size by omega) (show w.heap.size < w5.heap.size ∨ w6.heap.size ≤ w.heap.size by omega)).trans s_0_10
    have s_1_11 := (C11.out.cell (p := ⟨w.heap.size, 1, none⟩) (show w.heap.size < w10.heap.size by omega) (show w.heap.size < w5.heap.size ∨ w6.heap.size ≤ w.heap.size by omega)).trans s_1_10
    have s_2_11 := (C11.out.cell (p := ⟨w.heap.size, 2, none⟩) (show w.heap.size < w10.heap.size by omega) (show w.heap.size < w5.heap.size ∨ w6.heap.size ≤ w.heap.size by omega)).trans s_2_10
    have s_3_11 := (C11.out.cell (p := ⟨w.heap.size, 3, none⟩) (show w.heap.size < w10.heap.size by omega) (show w.heap.size < w5.heap.size ∨ w6.heap.size ≤ w.heap.size by omega)).trans s_3_10
    have s_4_11 := (C11.out.cell (p := ⟨w.heap.size, 4, none⟩) (show w.heap.size < w10.heap.size by omega) (show w.heap.size < w5.heap.size ∨ w6.heap.size ≤ w.heap.size by omega)).trans s_4_10
    have s_5_11 := (C11.out.cell (p := ⟨w.heap.size, 5, none⟩) (show w.heap.size < w10.heap.size by omega) (show w.heap.size < w5.heap.size ∨ w6.heap.size ≤ w.heap.size by omega)).trans s_5_10
    have s_6_11 := (C11.out.cell (p := ⟨w.heap.size, 6, none⟩) (show w.heap.size < w10.heap.size by omega) (show w.heap.size < w5.heap.size ∨ w6.heap.size ≤ w.heap.size by omega)).trans s_6_10
    have s_7_11 := (C11.out.cell (p := ⟨w.heap.size, 7, none⟩) (show w.heap.size < w10.heap.size by omega) (show w.heap.size < w5.heap.size ∨ w6.heap.size ≤ w.heap.size by omega)).trans s_7_10
    have s_8_11 := (C11.out.cell (p := ⟨w.heap.size, 8, none⟩) (show w.heap.size < w10.heap.size by omega) (show w.heap.size < w5.heap.size ∨ w6.heap.size ≤ w.heap.size by omega)).trans s_8_10
    clear s_0_10 s_1_10 s_2_10 s_3_10 s_4_10 s_5_10 s_6_10 s_7_10 s_8_10
    have x_0_11 := (C11.out.cell (p := ⟨w4.heap.size, 0, none⟩) (show w4.heap.size < w10.heap.size by omega) (show w4.heap.size < w5.heap.size ∨ w6.heap.size ≤ w4.heap.size by omega)).trans x_0_10
    have x_1_11 := (C11.out.cell (p := ⟨w4.heap.size, 1, none⟩) (show w4.heap.size < w10.heap.size by omega) (show w4.heap.size < w5.heap.size ∨ w6.heap.size ≤ w4.heap.size by omega)).trans x_1_10
    have x_2_11 := (C11.out.cell (p := ⟨w4.heap.size, 2, none⟩) (show w4.heap.size < w10.heap.size by omega) (show w4.heap.size < w5.heap.size ∨ w6.heap.size ≤ w4.heap.size by omega)).trans x_2_10
    have x_3_11 := (C11.out.cell (p := ⟨w4.heap.size, 3, none⟩) (show w4.heap.size < w10.heap.size by omega) (show w4.heap.size < w5.heap.size ∨ w6.heap.size ≤ w4.heap.size by omega)).trans x_3_10
    have x_4_11 := (C11.out.cell (p := ⟨w4.heap.size, 4, none⟩) (show w4.heap.size < w10.heap.size by omega) (show w4.heap.size < w5.heap.size ∨ w6.heap.size ≤ w4.heap.size by omega)).trans x_4_10
    have x_5_11 := (C11.out.cell (p := ⟨w4.heap.size, 5, none⟩) (show w4.heap.size < w10.heap.size by omega) (show w4.heap.size < w5.heap.size ∨ w6.heap.size ≤ w4.heap.size by omega)).trans x_5_10
    have x_6_11 := (C11.out.cell (p := ⟨w4.heap.size, 6, none⟩) (show w4.heap.size < w10.heap.size by omega) (show w4.heap.size < w5.heap.size ∨ w6.heap.size ≤ w4.heap.size by omega)).trans x_6_10
    have x_7_11 := (C11.out.cell (p := ⟨w4.heap.size, 7, none⟩) (show w4.heap.size < w10.heap.size by omega) (show w4.heap.size < w5.heap.size ∨ w6.heap.size ≤ w4.heap.size by omega)).trans x_7_10
    have x_8_11 := (C11.out.cell (p := ⟨w4.heap.size, 8, none⟩) (show w4.heap.size < w10.heap.size by omega) (show w4.heap.size < w5.heap.size ∨ w6.heap.size ≤ w4.heap.size by omega)).trans x_8_10
    clear x_0_10 x_1_10 x_2_10 x_3_10 x_4_10 x_5_10 x_6_10 x_7_10 x_8_10
    have O_w0_11 := Lib.hid (O_w0_10.out.chg C11.out (by omega))
    clear O_w0_10
    have O_g0_11 := Lib.hid ho
    clear ho O_g0_10
    go_wp2_with fail
    refine (heldRingActS_any (tellL (wrongTo b.tru b.rx b.rx.length)).length A_g0 c_g0 1 _ (O_g0_11.out.rd Act__enc_len) (by omega) (by omega) (by omega)).mono ?_
    rintro e w12 ⟨he, hb⟩
    rw [← Hq11.out] at he
    subst he
    have C12 := Lib.hid hb
    clear hb
    have t12 := C12.out.size
    have Bw12 := Lib.hid (Bw11.out.trans (C12.out.mono Bw11.out.size))
    have s_0_12 := (C12.out.cell (p := ⟨w.heap.size, 0, none⟩) (show w.heap.size < w11.heap.size by omega)).trans s_0_11
    have s_1_12 := (C12.out.cell (p := ⟨w.heap.size, 1, none⟩) (show w.heap.size < w11.heap.size by omega)).trans s_1_11
    have s_2_12 := (C12.out.cell (p := ⟨w.heap.size, 2, none⟩) (show w.heap.size < w11.heap.size by omega)).trans s_2_11
    have s_3_12 := (C12.out.cell (p := ⟨w.heap.size, 3, none⟩) (show w.heap.size < w11.heap.size by omega)).trans s_3_11
    have s_4_12 := (C12.out.cell (p := ⟨w.heap.size, 4, none⟩) (show w.heap.size < w11.heap.size by omega)).trans s_4_11
    have s_5_12 := (C12.out.cell (p := ⟨w.heap.size, 5, none⟩) (show w.heap.size < w11.heap.size by omega)).trans s_5_11
    have s_6_12 := (C12.out.cell (p := ⟨w.heap.size, 6, none⟩) (show w.heap.size < w11.heap.size by omega)).trans s_6_11
    have s_7_12 := (C12.out.cell (p := ⟨w.heap.size, 7, none⟩) (show w.heap.size < w11.heap.size by omega)).trans s_7_11
    have s_8_12 := (C12.out.cell (p := ⟨w.heap.size, 8, none⟩) (show w.heap.size < w11.heap.size by omega)).trans s_8_11
    clear s_0_11 s_1_11 s_2_11 s_3_11 s_4_11 s_5_11 s_6_11 s_7_11 s_8_11
    have x_0_12 := (C12.out.cell (p := ⟨w4.heap.size, 0, none⟩) (show w4.heap.size < w11.heap.size by omega)).trans x_0_11
    have x_1_12 := (C12.out.cell (p := ⟨w4.heap.size, 1, none⟩) (show w4.heap.size < w11.heap.size by omega)).trans x_1_11
    have x_2_12 := (C12.out.cell (p := ⟨w4.heap.size, 2, none⟩) (show w4.heap.size < w11.heap.size by omega)).trans x_2_11
    have x_3_12 := (C12.out.cell (p := ⟨w4.heap.size, 3, none⟩) (show w4.heap.size < w11.heap.size by omega)).trans x_3_11
    have x_4_12 := (C12.out.cell (p := ⟨w4.heap.size, 4, none⟩) (show w4.heap.size < w11.heap.size by omega)).trans x_4_11
    have x_5_12 := (C12.out.cell (p := ⟨w4.heap.size, 5, none⟩) (show w4.heap.size < w11.heap.size by omega)).trans x_5_11
    have x_6_12 := (C12.out.cell (p := ⟨w4.heap.size, 6, none⟩) (show w4.heap.size < w11.heap.size by omega)).trans x_6_11
    have x_7_12 := (C12.out.cell (p := ⟨w4.heap.size, 7, none⟩) (show w4.heap.size < w11.heap.size by omega)).trans x_7_11
    have x_8_12 := (C12.out.cell (p := ⟨w4.heap.size, 8, none⟩) (show w4.heap.size < w11.heap.size by omega)).trans x_8_11
    clear x_0_11 x_1_11 x_2_11 x_3_11 x_4_11 x_5_11 x_6_11 x_7_11 x_8_11
    have O_w0_12 := Lib.hid (O_w0_11.out.later C12.out)
    clear O_w0_11
    have O_g0_12 := Lib.hid (O_g0_11.out.later C12.out)
    clear O_g0_11
    go_wp2_with fail
    refine (toBand_any b w12 ((H.out.below Bw12.out (Nat.le_refl _)).more Bw12.out.size) ((Hr.out.below Bw12.out (Nat.le_refl _)).more Bw12.out.size) (by omega) (by omega)).mono ?_
    rintro e w13 ⟨Aa13, Ar13, rfl, ho1, ho3, hb⟩
    have C13 := Lib.hid hb
    clear hb
    have t13 := C13.out.size
    have Bw13 := Lib.hid (Bw12.out.trans (C13.out.mono Bw12.out.size))
    have s_0_13 := (C13.out.cell (p := ⟨w.heap.size, 0, none⟩) (show w.heap.size < w12.heap.size by omega)).trans s_0_12
    have s_1_13 := (C13.out.cell (p := ⟨w.heap.size, 1, none⟩) (show w.heap.size < w12.heap.size by omega)).trans s_1_12
    have s_2_13 := (C13.out.cell (p := ⟨w.heap.size, 2, none⟩) (show w.heap.size < w12.heap.size by omega)).trans s_2_12
    have s_3_13 := (C13.out.cell (p := ⟨w.heap.size, 3, none⟩) (show w.heap.size < w12.heap.size by omega)).trans s_3_12
    have s_4_13 := (C13.out.cell (p := ⟨w.heap.size, 4, none⟩) (show w.heap.size < w12.heap.size by omega)).trans s_4_12
    have s_5_13 := (C13.out.cell (p := ⟨w.heap.size, 5, none⟩) (show w.heap.size < w12.heap.size by omega)).trans s_5_12
    have s_6_13 := (C13.out.cell (p := ⟨w.heap.size, 6, none⟩) (show w.heap.size < w12.heap.size by omega)).trans s_6_12
    have s_7_13 := (C13.out.cell (p := ⟨w.heap.size, 7, none⟩) (show w.heap.size < w12.heap.size by omega)).trans s_7_12
    have s_8_13 := (C13.out.cell (p := ⟨w.heap.size, 8, none⟩) (show w.heap.size < w12.heap.size by omega)).trans s_8_12
    clear s_0_12 s_1_12 s_2_12 s_3_12 s_4_12 s_5_12 s_6_12 s_7_12 s_8_12
    have x_0_13 := (C13.out.cell (p := ⟨w4.heap.size, 0, none⟩) (show w4.heap.size < w12.heap.size by omega)).trans x_0_12
    have x_1_13 := (C13.out.cell (p := ⟨w4.heap.size, 1, none⟩) (show w4.heap.size < w12.heap.size by omega)).trans x_1_12
    have x_2_13 := (C13.out.cell (p := ⟨w4.heap.size, 2, none⟩) (show w4.heap.size < w12.heap.size by omega)).trans x_2_12
    have x_3_13 := (C13.out.cell (p := ⟨w4.heap.size, 3, none⟩) (show w4.heap.size < w12.heap.size by omega)).trans x_3_12
    have x_4_13 := (C13.out.cell (p := ⟨w4.heap.size, 4, none⟩) (show w4.heap.size < w12.heap.size by omega)).trans x_4_12
    have x_5_13 := (C13.out.cell (p := ⟨w4.heap.size, 5, none⟩) (show w4.heap.size < w12.heap.size by omega)).trans x_5_12
    have x_6_13 := (C13.out.cell (p := ⟨w4.heap.size, 6, none⟩) (show w4.heap.size < w12.heap.size by omega)).trans x_6_12
    have x_7_13 := (C13.out.cell (p := ⟨w4.heap.size, 7, none⟩) (show w4.heap.size < w12.heap.size by omega)).trans x_7_12
    have x_8_13 := (C13.out.cell (p := ⟨w4.heap.size, 8, none⟩) (show w4.heap.size < w12.heap.size by omega)).trans x_8_12
    clear x_0_12 x_1_12 x_2_12 x_3_12 x_4_12 x_5_12 x_6_12 x_7_12 x_8_12
    have O_w0_13 := Lib.hid (O_w0_12.out.later C13.out)
    clear O_w0_12
    have O_g0_13 := Lib.hid (O_g0_12.out.later C13.out)
    clear O_g0_12
    have ok13 : Bnd.Ok ⟨⟨b.m.name, b.m.stage, b.m.x, Aa13, b.m.x.length⟩, b.bob, b.sing, b.step, b.call, b.tru, b.rx, Ar13, b.rx.length⟩ w13 := ⟨ho1.rd encString_len, ho3.rd Rgr_enc_len, by simp only; omega, by simp only; omega, M3.out, by simp only; omega, by simp only; omega, by simp only; omega, by simp only; omega, by simp only; omega⟩
    have OK13 := Lib.hid ok13
    clear ok13 ho1 ho3
    go_wp2_with fail
    refine (iPutRight_t ⟨⟨b.m.name, b.m.stage, b.m.x, Aa13, b.m.x.length⟩, b.bob, b.sing, b.step, b.call, b.tru, b.rx, Ar13, b.rx.length⟩ _ OK13.out HP.out).mono ?_
    rintro e w14 ⟨A_h0, c_h0, rfl, ho0, hb⟩
    have C14 := Lib.hid hb
    clear hb
    have t14 := C14.out.size
    have Bw14 := Lib.hid (Bw13.out.trans (C14.out.mono Bw13.out.size))
    have s_0_14 := (C14.out.cell (p := ⟨w.heap.size, 0, none⟩) (show w.heap.size < w13.heap.size by omega)).trans s_0_13
    have s_1_14 := (C14.out.cell (p := ⟨w.heap.size, 1, none⟩) (show w.heap.size < w13.heap.size by omega)).trans s_1_13
    have s_2_14 := (C14.out.cell (p := ⟨w.heap.size, 2, none⟩) (show w.heap.size < w13.heap.size by omega)).trans s_2_13
    have s_3_14 := (C14.out.cell (p := ⟨w.heap.size, 3, none⟩) (show w.heap.size < w13.heap.size by omega)).trans s_3_13
    have s_4_14 := (C14.out.cell (p := ⟨w.heap.size, 4, none⟩) (show w.heap.size < w13.heap.size by omega)).trans s_4_13
    have s_5_14 := (C14.out.cell (p := ⟨w.heap.size, 5, none⟩) (show w.heap.size < w13.heap.size by omega)).trans s_5_13
    have s_6_14 := (C14.out.cell (p := ⟨w.heap.size, 6, none⟩) (show w.heap.size < w13.heap.size by omega)).trans s_6_13
    have s_7_14 := (C14.out.cell (p := ⟨w.heap.size, 7, none⟩) (show w.heap.size < w13.heap.size by omega)).trans s_7_13
    have s_8_14 := (C14.out.cell (p := ⟨w.heap.size, 8, none⟩) (show w.heap.size < w13.heap.size by omega)).trans s_8_13
    clear s_0_13 s_1_13 s_2_13 s_3_13 s_4_13 s_5_13 s_6_13 s_7_13 s_8_13
    have x_0_14 := (C14.out.cell (p := ⟨w4.heap.size, 0, none⟩) (show w4.heap.size < w13.heap.size by omega)).trans x_0_13
    have x_1_14 := (C14.out.cell (p := ⟨w4.heap.size, 1, none⟩) (show w4.heap.size < w13.heap.size by omega)).trans x_1_13
    have x_2_14 := (C14.out.cell (p := ⟨w4.heap.size, 2, none⟩) (show w4.heap.size < w13.heap.size by omega)).trans x_2_13
    have x_3_14 := (C14.out.cell (p := ⟨w4.heap.size, 3, none⟩) (show w4.heap.size < w13.heap.size by omega)).trans x_3_13
    have x_4_14 := (C14.out.cell (p := ⟨w4.heap.size, 4, none⟩) (show w4.heap.size < w13.heap.size by omega)).trans x_4_13
    have x_5_14 := (C14.out.cell (p := ⟨w4.heap.size, 5, none⟩) (show w4.heap.size < w13.heap.size by omega)).trans x_5_13
    have x_6_14 := (C14.out.cell (p := ⟨w4.heap.size, 6, none⟩) (show w4.heap.size < w13.heap.size by omega)).trans x_6_13
    have x_7_14 := (C14.out.cell (p := ⟨w4.heap.size, 7, none⟩) (show w4.heap.size < w13.heap.size by omega)).trans x_7_13
    have x_8_14 := (C14.out.cell (p := ⟨w4.heap.size, 8, none⟩) (show w4.heap.size < w13.heap.size by omega)).trans x_8_13
    clear x_0_13 x_1_13 x_2_13 x_3_13 x_4_13 x_5_13 x_6_13 x_7_13 x_8_13
    have O_w0_14 := Lib.hid (O_w0_13.out.later C14.out)
    clear O_w0_13
    have O_g0_14 := Lib.hid (O_g0_13.out.later C14.out)
    clear O_g0_13
    have O_h0_14 := Lib.hid ho0
    clear ho0
    go_wp2_with fail
    refine (eqRingActS_t (tellL (wrongTo b.tru b.rx b.rx.length)) A_h0 A_w0 c_h0 c_w0 _ (O_h0_14.out.rd Act__enc_len) (O_w0_14.out.rd Act__enc_len) (by omega)).mono ?_
    rintro e w15 ⟨rfl, hb⟩
    have C15 := Lib.hid hb
    clear hb
    have t15 := C15.out.size
    have Bw15 := Lib.hid (Bw14.out.trans (C15.out.mono Bw14.out.size))
    have s_0_15 := (C15.out.cell (p := ⟨w.heap.size, 0, none⟩) (show w.heap.size < w14.heap.size by omega)).trans s_0_14
    have s_1_15 := (C15.out.cell (p := ⟨w.heap.size, 1, none⟩) (show w.heap.size < w14.heap.size by omega)).trans s_1_14
    have s_2_15 := (C15.out.cell (p := ⟨w.heap.size, 2, none⟩) (show w.heap.size < w14.heap.size by omega)).trans s_2_14
    have s_3_15 := (C15.out.cell (p := ⟨w.heap.size, 3, none⟩) (show w.heap.size < w14.heap.size by omega)).trans s_3_14
    have s_4_15 := (C15.out.cell (p := ⟨w.heap.size, 4, none⟩) (show w.heap.size < w14.heap.size by omega)).trans s_4_14
    have s_5_15 := (C15.out.cell (p := ⟨w.heap.size, 5, none⟩) (show w.heap.size < w14.heap.size by omega)).trans s_5_14
    have s_6_15 := (C15.out.cell (p := ⟨w.heap.size, 6, none⟩) (show w.heap.size < w14.heap.size by omega)).trans s_6_14
    have s_7_15 := (C15.out.cell (p := ⟨w.heap.size, 7, none⟩) (show w.heap.size < w14.heap.size by omega)).trans s_7_14
    have s_8_15 := (C15.out.cell (p := ⟨w.heap.size, 8, none⟩) (show w.heap.size < w14.heap.size by omega)).trans s_8_14
    clear s_0_14 s_1_14 s_2_14 s_3_14 s_4_14 s_5_14 s_6_14 s_7_14 s_8_14
    have x_0_15 := (C15.out.cell (p := ⟨w4.heap.size, 0, none⟩) (show w4.heap.size < w14.heap.size by omega)).trans x_0_14
    have x_1_15 := (C15.out.cell (p := ⟨w4.heap.size, 1, none⟩) (show w4.heap.size < w14.heap.size by omega)).trans x_1_14
    have x_2_15 := (C15.out.cell (p := ⟨w4.heap.size, 2, none⟩) (show w4.heap.size < w14.heap.size by omega)).trans x_2_14
    have x_3_15 := (C15.out.cell (p := ⟨w4.heap.size, 3, none⟩) (show w4.heap.size < w14.heap.size by omega)).trans x_3_14
    have x_4_15 := (C15.out.cell (p := ⟨w4.heap.size, 4, none⟩) (show w4.heap.size < w14.heap.size by omega)).trans x_4_14
    have x_5_15 := (C15.out.cell (p := ⟨w4.heap.size, 5, none⟩) (show w4.heap.size < w14.heap.size by omega)).trans x_5_14
    have x_6_15 := (C15.out.cell (p := ⟨w4.heap.size, 6, none⟩) (show w4.heap.size < w14.heap.size by omega)).trans x_6_14
    have x_7_15 := (C15.out.cell (p := ⟨w4.heap.size, 7, none⟩) (show w4.heap.size < w14.heap.size by omega)).trans x_7_14
    have x_8_15 := (C15.out.cell (p := ⟨w4.heap.size, 8, none⟩) (show w4.heap.size < w14.heap.size by omega)).trans x_8_14
    clear x_0_14 x_1_14 x_2_14 x_3_14 x_4_14 x_5_14 x_6_14 x_7_14 x_8_14
    have O_g0_15 := Lib.hid (O_g0_14.out.later C15.out)
    clear O_g0_14
    go_wp2_with fail
    refine (heldRingActS_any (tellL (wrongTo b.tru b.rx b.rx.length)).length A_g0 c_g0 1 _ (O_g0_15.out.rd Act__enc_len) (by omega) (by omega) (by omega)).mono ?_
    rintro e w16 ⟨he, hb⟩
    rw [← Hq11.out] at he
    subst he
    have C16 := Lib.hid hb
    clear hb
    have t16 := C16.out.size
    have Bw16 := Lib.hid (Bw15.out.trans (C16.out.mono Bw15.out.size))
    have s_0_16 := (C16.out.cell (p := ⟨w.heap.size, 0, none⟩) (show w.heap.size < w15.heap.size by omega)).trans s_0_15
    have s_1_16 := (C16.out.cell (p := ⟨w.heap.size, 1, none⟩) (show w.heap.size < w15.heap.size by omega)).trans s_1_15
    have s_2_16 := (C16.out.cell (p := ⟨w.heap.size, 2, none⟩) (show w.heap.size < w15.heap.size by omega)).trans s_2_15
    have s_3_16 := (C16.out.cell (p := ⟨w.heap.size, 3, none⟩) (show w.heap.size < w15.heap.size by omega)).trans s_3_15
    have s_4_16 := (C16.out.cell (p := ⟨w.heap.size, 4, none⟩) (show w.heap.size < w15.heap.size by omega)).trans s_4_15
    have s_5_16 := (C16.out.cell (p := ⟨w.heap.size, 5, none⟩) (show w.heap.size < w15.heap.size by omega)).trans s_5_15
    have s_6_16 := (C16.out.cell (p := ⟨w.heap.size, 6, none⟩) (show w.heap.size < w15.heap.size by omega)).trans s_6_15
    have s_7_16 := (C16.out.cell (p := ⟨w.heap.size, 7, none⟩) (show w.heap.size < w15.heap.size by omega)).trans s_7_15
    have s_8_16 := (C16.out.cell (p := ⟨w.heap.size, 8, none⟩) (show w.heap.size < w15.heap.size by omega)).trans s_8_15
    clear s_0_15 s_1_15 s_2_15 s_3_15 s_4_15 s_5_15 s_6_15 s_7_15 s_8_15
    have x_0_16 := (C16.out.cell (p := ⟨w4.heap.size, 0, none⟩) (show w4.heap.size < w15.heap.size by omega)).trans x_0_15
    have x_1_16 := (C16.out.cell (p := ⟨w4.heap.size, 1, none⟩) (show w4.heap.size < w15.heap.size by omega)).trans x_1_15
    have x_2_16 := (C16.out.cell (p := ⟨w4.heap.size, 2, none⟩) (show w4.heap.size < w15.heap.size by omega)).trans x_2_15
    have x_3_16 := (C16.out.cell (p := ⟨w4.heap.size, 3, none⟩) (show w4.heap.size < w15.heap.size by omega)).trans x_3_15
    have x_4_16 := (C16.out.cell (p := ⟨w4.heap.size, 4, none⟩) (show w4.heap.size < w15.heap.size by omega)).trans x_4_15
    have x_5_16 := (C16.out.cell (p := ⟨w4.heap.size, 5, none⟩) (show w4.heap.size < w15.heap.size by omega)).trans x_5_15
    have x_6_16 := (C16.out.cell (p := ⟨w4.heap.size, 6, none⟩) (show w4.heap.size < w15.heap.size by omega)).trans x_6_15
    have x_7_16 := (C16.out.cell (p := ⟨w4.heap.size, 7, none⟩) (show w4.heap.size < w15.heap.size by omega)).trans x_7_15
    have x_8_16 := (C16.out.cell (p := ⟨w4.heap.size, 8, none⟩) (show w4.heap.size < w15.heap.size by omega)).trans x_8_15
    clear x_0_15 x_1_15 x_2_15 x_3_15 x_4_15 x_5_15 x_6_15 x_7_15 x_8_15
    go_wp2_with fail
    go_ret
    exact ⟨rfl, Bw16.out⟩
  · have HP := Lib.hid hp
    clear hp
    go_wp2_with fail
    refine (toBand_any b w1 ((H.out.below Bw1.out (Nat.le_refl _)).more Bw1.out.size) ((Hr.out.below Bw1.out (Nat.le_refl _)).more Bw1.out.size) (by omega) (by omega)).mono ?_
    rintro e w2 ⟨Aa2, Ar2, rfl, ho1, ho3, hb⟩
    have C2 := Lib.hid hb
    clear hb
    have t2 := C2.out.size
    have Bw2 := Lib.hid (Bw1.out.trans (C2.out.mono Bw1.out.size))
    have s_0_2 := (C2.out.cell (p := ⟨w.heap.size, 0, none⟩) (show w.heap.size < w1.heap.size by omega)).trans s_0_1
    have s_1_2 := (C2.out.cell (p := ⟨w.heap.size, 1, none⟩) (show w.heap.size < w1.heap.size by omega)).trans s_1_1
    have s_2_2 := (C2.out.cell (p := ⟨w.heap.size, 2, none⟩) (show w.heap.size < w1.heap.size by omega)).trans s_2_1
    have s_3_2 := (C2.out.cell (p := ⟨w.heap.size, 3, none⟩) (show w.heap.size < w1.heap.size by omega)).trans s_3_1
    have s_4_2 := (C2.out.cell (p := ⟨w.heap.size, 4, none⟩) (show w.heap.size < w1.heap.size by omega)).trans s_4_1
    have s_5_2 := (C2.out.cell (p := ⟨w.heap.size, 5, none⟩) (show w.heap.size < w1.heap.size by omega)).trans s_5_1
    have s_6_2 := (C2.out.cell (p := ⟨w.heap.size, 6, none⟩) (show w.heap.size < w1.heap.size by omega)).trans s_6_1
    have s_7_2 := (C2.out.cell (p := ⟨w.heap.size, 7, none⟩) (show w.heap.size < w1.heap.size by omega)).trans s_7_1
    have s_8_2 := (C2.out.cell (p := ⟨w.heap.size, 8, none⟩) (show w.heap.size < w1.heap.size by omega)).trans s_8_1
    clear s_0_1 s_1_1 s_2_1 s_3_1 s_4_1 s_5_1 s_6_1 s_7_1 s_8_1
    have ok2 : Bnd.Ok ⟨⟨b.m.name, b.m.stage, b.m.x, Aa2, b.m.x.length⟩, b.bob, b.sing, b.step, b.call, b.tru, b.rx, Ar2, b.rx.length⟩ w2 := ⟨ho1.rd encString_len, ho3.rd Rgr_enc_len, by simp only; omega, by simp only; omega, M3.out, by simp only; omega, by simp only; omega, by simp only; omega, by simp only; omega, by simp only; omega⟩
    have OK2 := Lib.hid ok2
    clear ok2 ho1 ho3
    go_wp2_with fail
    refine (sPutRight_f ⟨⟨b.m.name, b.m.stage, b.m.x, Aa2, b.m.x.length⟩, b.bob, b.sing, b.step, b.call, b.tru, b.rx, Ar2, b.rx.length⟩ _ OK2.out HP.out).mono ?_
    rintro e w3 ⟨rfl, hb⟩
    have C3 := Lib.hid hb
    clear hb
    have t3 := C3.out.size
    have Bw3 := Lib.hid (Bw2.out.trans (C3.out.mono Bw2.out.size))
    have s_0_3 := (C3.out.cell (p := ⟨w.heap.size, 0, none⟩) (show w.heap.size < w2.heap.size by omega)).trans s_0_2
    have s_1_3 := (C3.out.cell (p := ⟨w.heap.size, 1, none⟩) (show w.heap.size < w2.heap.size by omega)).trans s_1_2
    have s_2_3 := (C3.out.cell (p := ⟨w.heap.size, 2, none⟩) (show w.heap.size < w2.heap.size by omega)).trans s_2_2
    have s_3_3 := (C3.out.cell (p := ⟨w.heap.size, 3, none⟩) (show w.heap.size < w2.heap.size by omega)).trans s_3_2
    have s_4_3 := (C3.out.cell (p := ⟨w.heap.size, 4, none⟩) (show w.heap.size < w2.heap.size by omega)).trans s_4_2
    have s_5_3 := (C3.out.cell (p := ⟨w.heap.size, 5, none⟩) (show w.heap.size < w2.heap.size by omega)).trans s_5_2
    have s_6_3 := (C3.out.cell (p := ⟨w.heap.size, 6, none⟩) (show w.heap.size < w2.heap.size by omega)).trans s_6_2
    have s_7_3 := (C3.out.cell (p := ⟨w.heap.size, 7, none⟩) (show w.heap.size < w2.heap.size by omega)).trans s_7_2
    have s_8_3 := (C3.out.cell (p := ⟨w.heap.size, 8, none⟩) (show w.heap.size < w2.heap.size by omega)).trans s_8_2
    clear s_0_2 s_1_2 s_2_2 s_3_2 s_4_2 s_5_2 s_6_2 s_7_2 s_8_2
    have O_w0_3 : Hid (OwnL w3 w2.heap.size w3.heap.size none 4 Act_.enc ([] : List Act_)) := Lib.hid OwnL.nil
    go_wp2_with fail
    refine (toBandS_any b w3 ((H.out.below Bw3.out (Nat.le_refl _)).more Bw3.out.size) ((Hr.out.below Bw3.out (Nat.le_refl _)).more Bw3.out.size) (by omega) (by omega)).mono ?_
    rintro e w4 ⟨Ax, Rx, gsx, rfl, hgx1, hgx2, ho1, ho3, hb⟩
    have C4 := Lib.hid hb
    clear hb
    have t4 := C4.out.size
    have Bw4 := Lib.hid (Bw3.out.trans (C4.out.mono Bw3.out.size))
    have s_0_4 := (C4.out.cell (p := ⟨w.heap.size, 0, none⟩) (show w.heap.size < w3.heap.size by omega)).trans s_0_3
    have s_1_4 := (C4.out.cell (p := ⟨w.heap.size, 1, none⟩) (show w.heap.size < w3.heap.size by omega)).trans s_1_3
    have s_2_4 := (C4.out.cell (p := ⟨w.heap.size, 2, none⟩) (show w.heap.size < w3.heap.size by omega)).trans s_2_3
    have s_3_4 := (C4.out.cell (p := ⟨w.heap.size, 3, none⟩) (show w.heap.size < w3.heap.size by omega)).trans s_3_3
    have s_4_4 := (C4.out.cell (p := ⟨w.heap.size, 4, none⟩) (show w.heap.size < w3.heap.size by omega)).trans s_4_3
    have s_5_4 := (C4.out.cell (p := ⟨w.heap.size, 5, none⟩) (show w.heap.size < w3.heap.size by omega)).trans s_5_3
    have s_6_4 := (C4.out.cell (p := ⟨w.heap.size, 6, none⟩) (show w.heap.size < w3.heap.size by omega)).trans s_6_3
    have s_7_4 := (C4.out.cell (p := ⟨w.heap.size, 7, none⟩) (show w.heap.size < w3.heap.size by omega)).trans s_7_3
    have s_8_4 := (C4.out.cell (p := ⟨w.heap.size, 8, none⟩) (show w.heap.size < w3.heap.size by omega)).trans s_8_3
    clear s_0_3 s_1_3 s_2_3 s_3_3 s_4_3 s_5_3 s_6_3 s_7_3 s_8_3
    have O_w0_4 := Lib.hid (O_w0_3.out.later C4.out)
    clear O_w0_3
    have O_x0_a_4 := Lib.hid ho1
    have O_x0_r_4 := Lib.hid ho3
    clear ho1 ho3
    go_wp2_with fail
    have x_0_5 : (w4.alloc (.cells #[.string b.m.name, .int .i64 b.m.stage, .slice Ax b.m.x.length b.m.x.length, .string b.bob, .string b.sing, .int .i64 b.step, .string b.call, .string b.tru, .slice Rx b.rx.length b.rx.length] 54)).cell? ⟨w4.heap.size, 0, none⟩ = some (.string b.m.name) := by simp [go_sem]
    have x_1_5 : (w4.alloc (.cells #[.string b.m.name, .int .i64 b.m.stage, .slice Ax b.m.x.length b.m.x.length, .string b.bob, .string b.sing, .int .i64 b.step, .string b.call, .string b.tru, .slice Rx b.rx.length b.rx.length] 54)).cell? ⟨w4.heap.size, 1, none⟩ = some (.int .i64 b.m.stage) := by simp [go_sem]
    have x_2_5 : (w4.alloc (.cells #[.string b.m.name, .int .i64 b.m.stage, .slice Ax b.m.x.length b.m.x.length, .string b.bob, .string b.sing, .int .i64 b.step, .string b.call, .string b.tru, .slice Rx b.rx.length b.rx.length] 54)).cell? ⟨w4.heap.size, 2, none⟩ = some (.slice Ax b.m.x.length b.m.x.length) := by simp [go_sem]
    have x_3_5 : (w4.alloc (.cells #[.string b.m.name, .int .i64 b.m.stage, .slice Ax b.m.x.length b.m.x.length, .string b.bob, .string b.sing, .int .i64 b.step, .string b.call, .string b.tru, .slice Rx b.rx.length b.rx.length] 54)).cell? ⟨w4.heap.size, 3, none⟩ = some (.string b.bob) := by simp [go_sem]
    have x_4_5 : (w4.alloc (.cells #[.string b.m.name, .int .i64 b.m.stage, .slice Ax b.m.x.length b.m.x.length, .string b.bob, .string b.sing, .int .i64 b.step, .string b.call, .string b.tru, .slice Rx b.rx.length b.rx.length] 54)).cell? ⟨w4.heap.size, 4, none⟩ = some (.string b.sing) := by simp [go_sem]
    have x_5_5 : (w4.alloc (.cells #[.string b.m.name, .int .i64 b.m.stage, .slice Ax b.m.x.length b.m.x.length, .string b.bob, .string b.sing, .int .i64 b.step, .string b.call, .string b.tru, .slice Rx b.rx.length b.rx.length] 54)).cell? ⟨w4.heap.size, 5, none⟩ = some (.int .i64 b.step) := by simp [go_sem]
    have x_6_5 : (w4.alloc (.cells #[.string b.m.name, .int .i64 b.m.stage, .slice Ax b.m.x.length b.m.x.length, .string b.bob, .string b.sing, .int .i64 b.step, .string b.call, .string b.tru, .slice Rx b.rx.length b.rx.length] 54)).cell? ⟨w4.heap.size, 6, none⟩ = some (.string b.call) := by simp [go_sem]
    have x_7_5 : (w4.alloc (.cells #[.string b.m.name, .int .i64 b.m.stage, .slice Ax b.m.x.length b.m.x.length, .string b.bob, .string b.sing, .int .i64 b.step, .string b.call, .string b.tru, .slice Rx b.rx.length b.rx.length] 54)).cell? ⟨w4.heap.size, 7, none⟩ = some (.string b.tru) := by simp [go_sem]
    have x_8_5 : (w4.alloc (.cells #[.string b.m.name, .int .i64 b.m.stage, .slice Ax b.m.x.length b.m.x.length, .string b.bob, .string b.sing, .int .i64 b.step, .string b.call, .string b.tru, .slice Rx b.rx.length b.rx.length] 54)).cell? ⟨w4.heap.size, 8, none⟩ = some (.slice Rx b.rx.length b.rx.length) := by simp [go_sem]
    have t5 : w4.heap.size + 1 ≤ (w4.alloc (.cells #[.string b.m.name, .int .i64 b.m.stage, .slice Ax b.m.x.length b.m.x.length, .string b.bob, .string b.sing, .int .i64 b.step, .string b.call, .string b.tru, .slice Rx b.rx.length b.rx.length] 54)).heap.size := by simp
    have C5 : Hid (Below w4.heap.size w4 (w4.alloc (.cells #[.string b.m.name, .int .i64 b.m.stage, .slice Ax b.m.x.length b.m.x.length, .string b.bob, .string b.sing, .int .i64 b.step, .string b.call, .string b.tru, .slice Rx b.rx.length b.rx.length] 54))) := Lib.hid ((Below.refl _ _).alloc (Nat.le_refl _) _)
    generalize (w4.alloc (.cells #[.string b.m.name, .int .i64 b.m.stage, .slice Ax b.m.x.length b.m.x.length, .string b.bob, .string b.sing, .int .i64 b.step, .string b.call, .string b.tru, .slice Rx b.rx.length b.rx.length] 54)) = w5 at *
    have Bw5 := Lib.hid (Bw4.out.trans (C5.out.mono Bw4.out.size))
    have s_0_5 := (C5.out.cell (p := ⟨w.heap.size, 0, none⟩) (show w.heap.size < w4.heap.size by omega)).trans s_0_4
    have s_1_5 := (C5.out.cell (p := ⟨w.heap.size, 1, none⟩) (show w.heap.size < w4.heap.size by omega)).trans s_1_4
    have s_2_5 := (C5.out.cell (p := ⟨w.heap.size, 2, none⟩) (show w.heap.size < w4.heap.size by omega)).trans s_2_4
    have s_3_5 := (C5.out.cell (p := ⟨w.heap.size, 3, none⟩) (show w.heap.size < w4.heap.size by omega)).trans s_3_4
    have s_4_5 := (C5.out.cell (p := ⟨w.heap.size, 4, none⟩) (show w.heap.size < w4.heap.size by omega)).trans s_4_4
    have s_5_5 := (C5.out.cell (p := ⟨w.heap.size, 5, none⟩) (show w.heap.size < w4.heap.size by omega)).trans s_5_4
    have s_6_5 := (C5.out.cell (p := ⟨w.heap.size, 6, none⟩) (show w.heap.size < w4.heap.size by omega)).trans s_6_4
    have s_7_5 := (C5.out.cell (p := ⟨w.heap.size, 7, none⟩) (show w.heap.size < w4.heap.size by omega)).trans s_7_4
    have s_8_5 := (C5.out.cell (p := ⟨w.heap.size, 8, none⟩) (show w.heap.size < w4.heap.size by omega)).trans s_8_4
    clear s_0_4 s_1_4 s_2_4 s_3_4 s_4_4 s_5_4 s_6_4 s_7_4 s_8_4
    have O_w0_5 := Lib.hid (O_w0_4.out.later C5.out)
    clear O_w0_4
    have O_x0_a_5 := Lib.hid (O_x0_a_4.out.later C5.out)
    clear O_x0_a_4
    have O_x0_r_5 := Lib.hid (O_x0_r_4.out.later C5.out)
    clear O_x0_r_4
    have ok5 : Bnd.Ok ⟨⟨b.m.name, b.m.stage, b.m.x, Ax, b.m.x.length⟩, b.bob, b.sing, b.step, b.call, b.tru, b.rx, Rx, b.rx.length⟩ w5 := ⟨O_x0_a_5.out.rd encString_len, O_x0_r_5.out.rd Rgr_enc_len, by simp only; omega, by simp only; omega, M3.out, by simp only; omega, by simp only; omega, by simp only; omega, by simp only; omega, by simp only; omega⟩
    have OK5 := Lib.hid ok5
    clear ok5
    go_wp2_with fail
    refine (iPutRight_f ⟨⟨b.m.name, b.m.stage, b.m.x, Ax, b.m.x.length⟩, b.bob, b.sing, b.step, b.call, b.tru, b.rx, Rx, b.rx.length⟩ _ OK5.out HP.out).mono ?_
    rintro e w6 ⟨rfl, hb⟩
    have C6 := Lib.hid hb
    clear hb
    have t6 := C6.out.size
    have Bw6 := Lib.hid (Bw5.out.trans (C6.out.mono Bw5.out.size))
    have s_0_6 := (C6.out.cell (p := ⟨w.heap.size, 0, none⟩) (show w.heap.size < w5.heap.size by omega)).trans s_0_5
    have s_1_6 := (C6.out.cell (p := ⟨w.heap.size, 1, none⟩) (show w.heap.size < w5.heap.size by omega)).trans s_1_5
    have s_2_6 := (C6.out.cell (p := ⟨w.heap.size, 2, none⟩) (show w.heap.size < w5.heap.size by omega)).trans s_2_5
    have s_3_6 := (C6.out.cell (p := ⟨w.heap.size, 3, none⟩) (show w.heap.size < w5.heap.size by omega)).trans s_3_5
    have s_4_6 := (C6.out.cell (p := ⟨w.heap.size, 4, none⟩) (show w.heap.size < w5.heap.size by omega)).trans s_4_5
    have s_5_6 := (C6.out.cell (p := ⟨w.heap.size, 5, none⟩) (show w.heap.size < w5.heap.size by omega)).trans s_5_5
    have s_6_6 := (C6.out.cell (p := ⟨w.heap.size, 6, none⟩) (show w.heap.size < w5.heap.size by omega)).trans s_6_5
    have s_7_6 := (C6.out.cell (p := ⟨w.heap.size, 7, none⟩) (show w.heap.size < w5.heap.size by omega)).trans s_7_5
    have s_8_6 := (C6.out.cell (p := ⟨w.heap.size, 8, none⟩) (show w.heap.size < w5.heap.size by omega)).trans s_8_5
    clear s_0_5 s_1_5 s_2_5 s_3_5 s_4_5 s_5_5 s_6_5 s_7_5 s_8_5
    have x_0_6 := (C6.out.cell (p := ⟨w4.heap.size, 0, none⟩) (show w4.heap.size < w5.heap.size by omega)).trans x_0_5
    have x_1_6 := (C6.out.cell (p := ⟨w4.heap.size, 1, none⟩) (show w4.heap.size < w5.heap.size by omega)).trans x_1_5
    have x_2_6 := (C6.out.cell (p := ⟨w4.heap.size, 2, none⟩) (show w4.heap.size < w5.heap.size by omega)).trans x_2_5
    have x_3_6 := (C6.out.cell (p := ⟨w4.heap.size, 3, none⟩) (show w4.heap.size < w5.heap.size by omega)).trans x_3_5
    have x_4_6 := (C6.out.cell (p := ⟨w4.heap.size, 4, none⟩) (show w4.heap.size < w5.heap.size by omega)).trans x_4_5
    have x_5_6 := (C6.out.cell (p := ⟨w4.heap.size, 5, none⟩) (show w4.heap.size < w5.heap.size by omega)).trans x_5_5
    have x_6_6 := (C6.out.cell (p := ⟨w4.heap.size, 6, none⟩) (show w4.heap.size < w5.heap.size by omega)).trans x_6_5
    have x_7_6 := (C6.out.cell (p := ⟨w4.heap.size, 7, none⟩) (show w4.heap.size < w5.heap.size by omega)).trans x_7_5
    have x_8_6 := (C6.out.cell (p := ⟨w4.heap.size, 8, none⟩) (show w4.heap.size < w5.heap.size by omega)).trans x_8_5
    clear x_0_5 x_1_5 x_2_5 x_3_5 x_4_5 x_5_5 x_6_5 x_7_5 x_8_5
    have O_w0_6 := Lib.hid (O_w0_5.out.later C6.out)
    clear O_w0_5
    have O_x0_a_6 := Lib.hid (O_x0_a_5.out.later C6.out)
    clear O_x0_a_5
    have O_x0_r_6 := Lib.hid (O_x0_r_5.out.later C6.out)
    clear O_x0_r_5
    have O_g0_6 : Hid (OwnL w6 w5.heap.size w6.heap.size none 4 Act_.enc ([] : List Act_)) := Lib.hid OwnL.nil
    go_wp2_with fail
    refine (eqRingActS_t ([] : List Act_) none none 0 0 _ (O_g0_6.out.rd Act__enc_len) (O_w0_6.out.rd Act__enc_len) (by simp)).mono ?_
    rintro e w7 ⟨rfl, hb⟩
    have C7 := Lib.hid hb
    clear hb
    have t7 := C7.out.size
    have Bw7 := Lib.hid (Bw6.out.trans (C7.out.mono Bw6.out.size))
    have s_0_7 := (C7.out.cell (p := ⟨w.heap.size, 0, none⟩) (show w.heap.size < w6.heap.size by omega)).trans s_0_6
    have s_1_7 := (C7.out.cell (p := ⟨w.heap.size, 1, none⟩) (show w.heap.size < w6.heap.size by omega)).trans s_1_6
    have s_2_7 := (C7.out.cell (p := ⟨w.heap.size, 2, none⟩) (show w.heap.size < w6.heap.size by omega)).trans s_2_6
    have s_3_7 := (C7.out.cell (p := ⟨w.heap.size, 3, none⟩) (show w.heap.size < w6.heap.size by omega)).trans s_3_6
    have s_4_7 := (C7.out.cell (p := ⟨w.heap.size, 4, none⟩) (show w.heap.size < w6.heap.size by omega)).trans s_4_6
    have s_5_7 := (C7.out.cell (p := ⟨w.heap.size, 5, none⟩) (show w.heap.size < w6.heap.size by omega)).trans s_5_6
    have s_6_7 := (C7.out.cell (p := ⟨w.heap.size, 6, none⟩) (show w.heap.size < w6.heap.size by omega)).trans s_6_6
    have s_7_7 := (C7.out.cell (p := ⟨w.heap.size, 7, none⟩) (show w.heap.size < w6.heap.size by omega)).trans s_7_6
    have s_8_7 := (C7.out.cell (p := ⟨w.heap.size, 8, none⟩) (show w.heap.size < w6.heap.size by omega)).trans s_8_6
    clear s_0_6 s_1_6 s_2_6 s_3_6 s_4_6 s_5_6 s_6_6 s_7_6 s_8_6
    have x_0_7 := (C7.out.cell (p := ⟨w4.heap.size, 0, none⟩) (show w4.heap.size < w6.heap.size by omega)).trans x_0_6
    have x_1_7 := (C7.out.cell (p := ⟨w4.heap.size, 1, none⟩) (show w4.heap.size < w6.heap.size by omega)).trans x_1_6
    have x_2_7 := (C7.out.cell (p := ⟨w4.heap.size, 2, none⟩) (show w4.heap.size < w6.heap.size by omega)).trans x_2_6
    have x_3_7 := (C7.out.cell (p := ⟨w4.heap.size, 3, none⟩) (show w4.heap.size < w6.heap.size by omega)).trans x_3_6
    have x_4_7 := (C7.out.cell (p := ⟨w4.heap.size, 4, none⟩) (show w4.heap.size < w6.heap.size by omega)).trans x_4_6
    have x_5_7 := (C7.out.cell (p := ⟨w4.heap.size, 5, none⟩) (show w4.heap.size < w6.heap.size by omega)).trans x_5_6
    have x_6_7 := (C7.out.cell (p := ⟨w4.heap.size, 6, none⟩) (show w4.heap.size < w6.heap.size by omega)).trans x_6_6
    have x_7_7 := (C7.out.cell (p := ⟨w4.heap.size, 7, none⟩) (show w4.heap.size < w6.heap.size by omega)).trans x_7_6
    have x_8_7 := (C7.out.cell (p := ⟨w4.heap.size, 8, none⟩) (show w4.heap.size < w6.heap.size by omega)).trans x_8_6
    clear x_0_6 x_1_6 x_2_6 x_3_6 x_4_6 x_5_6 x_6_6 x_7_6 x_8_6
    have O_w0_7 := Lib.hid (O_w0_6.out.later C7.out)
    clear O_w0_6
    have O_x0_a_7 := Lib.hid (O_x0_a_6.out.later C7.out)
    clear O_x0_a_6
    have O_x0_r_7 := Lib.hid (O_x0_r_6.out.later C7.out)
    clear O_x0_r_6
    have O_g0_7 := Lib.hid (O_g0_6.out.later C7.out)
    clear O_g0_6
    go_wp2_with fail
    go_region_held3 (fun w' => w'.cell? ⟨w4.heap.size, 0, none⟩ = some (.string b.m.name) ∧ w'.cell? ⟨w4.heap.size, 1, none⟩ = some (.int .i64 b.m.stage) ∧ w'.cell? ⟨w4.heap.size, 2, none⟩ = some (.slice Ax b.m.x.length b.m.x.length) ∧ w'.cell? ⟨w4.heap.size, 3, none⟩ = some (.string b.bob) ∧ w'.cell? ⟨w4.heap.size, 4, none⟩ = some (.string b.sing) ∧ w'.cell? ⟨w4.heap.size, 5, none⟩ = some (.int .i64 b.step) ∧ w'.cell? ⟨w4.heap.size, 6, none⟩ = some (.string b.call) ∧ w'.cell? ⟨w4.heap.size, 7, none⟩ = some (.string b.tru) ∧ w'.cell? ⟨w4.heap.size, 8, none⟩ = some (.slice Rx b.rx.length b.rx.length) ∧ w'.cell? ⟨w.heap.size, 0, none⟩ = some (.string b.m.name) ∧ w'.cell? ⟨w.heap.size, 1, none⟩ = some (.int .i64 b.m.stage) ∧ w'.cell? ⟨w.heap.size, 2, none⟩ = some (.slice b.m.A b.m.x.length b.m.c) ∧ w'.cell? ⟨w.heap.size, 3, none⟩ = some (.string b.bob) ∧ w'.cell? ⟨w.heap.size, 4, none⟩ = some (.string b.sing) ∧ w'.cell? ⟨w.heap.size, 5, none⟩ = some (.int .i64 b.step) ∧ w'.cell? ⟨w.heap.size, 6, none⟩ = some (.string b.call) ∧ w'.cell? ⟨w.heap.size, 7, none⟩ = some (.string b.tru) ∧ w'.cell? ⟨w.heap.size, 8, none⟩ = some (.slice b.RA b.rx.length b.rc)) (first | exact ⟨x_0_7, x_1_7, x_2_7, x_3_7, x_4_7, x_5_7, x_6_7, x_7_7, x_8_7, s_0_7, s_1_7, s_2_7, s_3_7, s_4_7, s_5_7, s_6_7, s_7_7, s_8_7⟩ | exact ⟨yx_0, yx_1, yx_2, yx_3, yx_4, yx_5, yx_6, yx_7, yx_8, ys_0, ys_1, ys_2, ys_3, ys_4, ys_5, ys_6, ys_7, ys_8⟩ | exact ⟨zx_0, zx_1, zx_2, zx_3, zx_4, zx_5, zx_6, zx_7, zx_8, zs_0, zs_1, zs_2, zs_3, zs_4, zs_5, zs_6, zs_7, zs_8⟩ | go_keep) (first | (go_at_call 28; refine (toBand_any b _ (show RdL w7.drew w7.drew.heap.size b.m.A 1 encString b.m.x from ((H.out.below Bw7.out (Nat.le_refl _)).more Bw7.out.size)) (show RdL w7.drew w7.drew.heap.size b.RA 2 Rgr.enc b.rx from ((Hr.out.below Bw7.out (Nat.le_refl _)).more Bw7.out.size)) (by omega) (by omega)).mono ?_; rintro e wa ⟨Ay, Ry, rfl, hq1, hq3, hba⟩; have yx_0 : wa.cell? ⟨w4.heap.size, 0, none⟩ = some (.string b.m.name) := (hba.cell (p := ⟨w4.heap.size, 0, none⟩) (show w4.heap.size < w7.heap.size by omega)).trans x_0_7; have yx_1 : wa.cell? ⟨w4.heap.size, 1, none⟩ = some (.int .i64 b.m.stage) := (hba.cell (p := ⟨w4.heap.size, 1, none⟩) (show w4.heap.size < w7.heap.size by omega)).trans x_1_7; have yx_2 : wa.cell? ⟨w4.heap.size, 2, none⟩ = some (.slice Ax b.m.x.length b.m.x.length) := (hba.cell (p := ⟨w4.heap.size, 2, none⟩) (show w4.heap.size < w7.heap.size by omega)).trans x_2_7; have yx_3 : wa.cell? ⟨w4.heap.size, 3, none⟩ = some (.string b.bob) := (hba.cell (p := ⟨w4.heap.size, 3, none⟩) (show w4.heap.size < w7.heap.size by omega)).trans x_3_7; have yx_4 : wa.cell? ⟨w4.heap.size, 4, none⟩ = some (.string b.sing) := (hba.cell (p := ⟨w4.heap.size, 4, none⟩) (show w4.heap.size < w7.heap.size by omega)).trans x_4_7; have yx_5 : wa.cell? ⟨w4.heap.size, 5, none⟩ = some (.int .i64 b.step) := (hba.cell (p := ⟨w4.heap.size, 5, none⟩) (show w4.heap.size < w7.heap.size by omega)).trans x_5_7; have yx_6 : wa.cell? ⟨w4.heap.size, 6, none⟩ = some (.string b.call) := (hba.cell (p := ⟨w4.heap.size, 6, none⟩) (show w4.heap.size < w7.heap.size by omega)).trans x_6_7; have yx_7 : wa.cell? ⟨w4.heap.size, 7, none⟩ = some (.string b.tru) := (hba.cell (p := ⟨w4.heap.size, 7, none⟩) (show w4.heap.size < w7.heap.size by omega)).trans x_7_7; have yx_8 : wa.cell? ⟨w4.heap.size, 8, none⟩ = some (.slice Rx b.rx.length b.rx.length) := (hba.cell (p := ⟨w4.heap.size, 8, none⟩) (show w4.heap.size < w7.heap.size by omega)).trans x_8_7; have ys_0 : wa.cell? ⟨w.heap.size, 0, none⟩ = some (.string b.m.name) := (hba.cell (p := ⟨w.heap.size, 0, none⟩) (show w.heap.size < w7.heap.size by omega)).trans s_0_7; have ys_1 : wa.cell? ⟨w.heap.size, 1, none⟩ = some (.int .i64 b.m.stage) := (hba.cell (p := ⟨w.heap.size, 1, none⟩) (show w.heap.size < w7.heap.size by omega)).trans s_1_7; have ys_2 : wa.cell? ⟨w.heap.size, 2, none⟩ = some (.slice b.m.A b.m.x.length b.m.c) := (hba.cell (p := ⟨w.heap.size, 2, none⟩) (show w.heap.size < w7.heap.size by omega)).trans s_2_7; have ys_3 : wa.cell? ⟨w.heap.size, 3, none⟩ = some (.string b.bob) := (hba.cell (p := ⟨w.heap.size, 3, none⟩) (show w.heap.size < w7.heap.size by omega)).trans s_3_7; have ys_4 : wa.cell? ⟨w.heap.size, 4, none⟩ = some (.string b.sing) := (hba.cell (p := ⟨w.heap.size, 4, none⟩) (show w.heap.size < w7.heap.size by omega)).trans s_4_7; have ys_5 : wa.cell? ⟨w.heap.size, 5, none⟩ = some (.int .i64 b.step) := (hba.cell (p := ⟨w.heap.size, 5, none⟩) (show w.heap.size < w7.heap.size by omega)).trans s_5_7; have ys_6 : wa.cell? ⟨w.heap.size, 6, none⟩ = some (.string b.call) := (hba.cell (p := ⟨w.heap.size, 6, none⟩) (show w.heap.size < w7.heap.size by omega)).trans s_6_7; have ys_7 : wa.cell? ⟨w.heap.size, 7, none⟩ = some (.string b.tru) := (hba.cell (p := ⟨w.heap.size, 7, none⟩) (show w.heap.size < w7.heap.size by omega)).trans s_7_7; have ys_8 : wa.cell? ⟨w.heap.size, 8, none⟩ = some (.slice b.RA b.rx.length b.rc) := (hba.cell (p := ⟨w.heap.size, 8, none⟩) (show w.heap.size < w7.heap.size by omega)).trans s_8_7; have HBa : Hid (Below w7.heap.size w7 wa) := Lib.hid ((Below.refl _ _).drew.trans hba); have Hq1 := Lib.hid hq1; have Hq3 := Lib.hid hq3; have Hq5 := Lib.hid (O_x0_a_7.out.later HBa.out); have Hq7 := Lib.hid (O_x0_r_7.out.later HBa.out); clear hq1 hq3 hba) | (go_at_call 30; refine (eqBand_t ⟨⟨b.m.name, b.m.stage, b.m.x, Ax, b.m.x.length⟩, b.bob, b.sing, b.step, b.call, b.tru, b.rx, Rx, b.rx.length⟩ Ay Ry b.m.x.length b.rx.length wa (Hq5.out.rd encString_len) (Hq1.out.rd encString_len) (Hq7.out.rd Rgr_enc_len) (Hq3.out.rd Rgr_enc_len) (by simp only; omega) (by simp only; omega)).mono ?_; rintro e w8 ⟨rfl, hbb⟩; have hya := HBa.out.size; have zx_0 : w8.cell? ⟨w4.heap.size, 0, none⟩ = some (.string b.m.name) := (hbb.cell (p := ⟨w4.heap.size, 0, none⟩) (show w4.heap.size < wa.heap.size by omega)).trans yx_0; have zx_1 : w8.cell? ⟨w4.heap.size, 1, none⟩ = some (.int .i64 b.m.stage) := (hbb.cell (p := ⟨w4.heap.size, 1, none⟩) (show w4.heap.size < wa.heap.size by omega)).trans yx_1; have zx_2 : w8.cell? ⟨w4.heap.size, 2, none⟩ = some (.slice Ax b.m.x.length b.m.x.length) := (hbb.cell (p := ⟨w4.heap.size, 2, none⟩) (show w4.heap.size < wa.heap.size by omega)).trans yx_2; have zx_3 : w8.cell? ⟨w4.heap.size, 3, none⟩ = some (.string b.bob) := (hbb.cell (p := ⟨w4.heap.size, 3, none⟩) (show w4.heap.size < wa.heap.size by omega)).trans yx_3; have zx_4 : w8.cell? ⟨w4.heap.size, 4, none⟩ = some (.string b.sing) := (hbb.cell (p := ⟨w4.heap.size, 4, none⟩) (show w4.heap.size < wa.heap.size by omega)).trans yx_4; have zx_5 : w8.cell? ⟨w4.heap.size, 5, none⟩ = some (.int .i64 b.step) := (hbb.cell (p := ⟨w4.heap.size, 5, none⟩) (show w4.heap.size < wa.heap.size by omega)).trans yx_5; have zx_6 : w8.cell? ⟨w4.heap.size, 6, none⟩ = some (.string b.call) := (hbb.cell (p := ⟨w4.heap.size, 6, none⟩) (show w4.heap.size < wa.heap.size by omega)).trans yx_6; have zx_7 : w8.cell? ⟨w4.heap.size, 7, none⟩ = some (.string b.tru) := (hbb.cell (p := ⟨w4.heap.size, 7, none⟩) (show w4.heap.size < wa.heap.size by omega)).trans yx_7; have zx_8 : w8.cell? ⟨w4.heap.size, 8, none⟩ = some (.slice Rx b.rx.length b.rx.length) := (hbb.cell (p := ⟨w4.heap.size, 8, none⟩) (show w4.heap.size < wa.heap.size by omega)).trans yx_8; have zs_0 : w8.cell? ⟨w.heap.size, 0, none⟩ = some (.string b.m.name) := (hbb.cell (p := ⟨w.heap.size, 0, none⟩) (show w.heap.size < wa.heap.size by omega)).trans ys_0; have zs_1 : w8.cell? ⟨w.heap.size, 1, none⟩ = some (.int .i64 b.m.stage) := (hbb.cell (p := ⟨w.heap.size, 1, none⟩) (show w.heap.size < wa.heap.size by omega)).trans ys_1; have zs_2 : w8.cell? ⟨w.heap.size, 2, none⟩ = some (.slice b.m.A b.m.x.length b.m.c) := (hbb.cell (p := ⟨w.heap.size, 2, none⟩) (show w.heap.size < wa.heap.size by omega)).trans ys_2; have zs_3 : w8.cell? ⟨w.heap.size, 3, none⟩ = some (.string b.bob) := (hbb.cell (p := ⟨w.heap.size, 3, none⟩) (show w.heap.size < wa.heap.size by omega)).trans ys_3; have zs_4 : w8.cell? ⟨w.heap.size, 4, none⟩ = some (.string b.sing) := (hbb.cell (p := ⟨w.heap.size, 4, none⟩) (show w.heap.size < wa.heap.size by omega)).trans ys_4; have zs_5 : w8.cell? ⟨w.heap.size, 5, none⟩ = some (.int .i64 b.step) := (hbb.cell (p := ⟨w.heap.size, 5, none⟩) (show w.heap.size < wa.heap.size by omega)).trans ys_5; have zs_6 : w8.cell? ⟨w.heap.size, 6, none⟩ = some (.string b.call) := (hbb.cell (p := ⟨w.heap.size, 6, none⟩) (show w.heap.size < wa.heap.size by omega)).trans ys_6; have zs_7 : w8.cell? ⟨w.heap.size, 7, none⟩ = some (.string b.tru) := (hbb.cell (p := ⟨w.heap.size, 7, none⟩) (show w.heap.size < wa.heap.size by omega)).trans ys_7; have zs_8 : w8.cell? ⟨w.heap.size, 8, none⟩ = some (.slice b.RA b.rx.length b.rc) := (hbb.cell (p := ⟨w.heap.size, 8, none⟩) (show w.heap.size < wa.heap.size by omega)).trans ys_8))
    have hb : Below w7.heap.size w7 w8 := HBa.out.trans (hbb.mono HBa.out.size)
    clear hbb yx_0 ys_0 zx_0 zs_0 yx_1 ys_1 zx_1 zs_1 yx_2 ys_2 zx_2 zs_2 yx_3 ys_3 zx_3 zs_3 yx_4 ys_4 zx_4 zs_4 yx_5 ys_5 zx_5 zs_5 yx_6 ys_6 zx_6 zs_6 yx_7 ys_7 zx_7 zs_7 yx_8 ys_8 zx_8 zs_8
    have C8 := Lib.hid hb
    clear hb
    have t8 := C8.out.size
    have Bw8 := Lib.hid (Bw7.out.trans (C8.out.mono Bw7.out.size))
    have s_0_8 := (C8.out.cell (p := ⟨w.heap.size, 0, none⟩) (show w.heap.size < w7.heap.size by omega)).trans s_0_7
    have s_1_8 := (C8.out.cell (p := ⟨w.heap.size, 1, none⟩) (show w.heap.size < w7.heap.size by omega)).trans s_1_7
    have s_2_8 := (C8.out.cell (p := ⟨w.heap.size, 2, none⟩) (show w.heap.size < w7.heap.size by omega)).trans s_2_7
    have s_3_8 := (C8.out.cell (p := ⟨w.heap.size, 3, none⟩) (show w.heap.size < w7.heap.size by omega)).trans s_3_7
    have s_4_8 := (C8.out.cell (p := ⟨w.heap.size, 4, none⟩) (show w.heap.size < w7.heap.size by omega)).trans s_4_7
    have s_5_8 := (C8.out.cell (p := ⟨w.heap.size, 5, none⟩) (show w.heap.size < w7.heap.size by omega)).trans s_5_7
    have s_6_8 := (C8.out.cell (p := ⟨w.heap.size, 6, none⟩) (show w.heap.size < w7.heap.size by omega)).trans s_6_7
    have s_7_8 := (C8.out.cell (p := ⟨w.heap.size, 7, none⟩) (show w.heap.size < w7.heap.size by omega)).trans s_7_7
    have s_8_8 := (C8.out.cell (p := ⟨w.heap.size, 8, none⟩) (show w.heap.size < w7.heap.size by omega)).trans s_8_7
    clear s_0_7 s_1_7 s_2_7 s_3_7 s_4_7 s_5_7 s_6_7 s_7_7 s_8_7
    have x_0_8 := (C8.out.cell (p := ⟨w4.heap.size, 0, none⟩) (show w4.heap.size < w7.heap.size by omega)).trans x_0_7
    have x_1_8 := (C8.out.cell (p := ⟨w4.heap.size, 1, none⟩) (show w4.heap.size < w7.heap.size by omega)).trans x_1_7
    have x_2_8 := (C8.out.cell (p := ⟨w4.heap.size, 2, none⟩) (show w4.heap.size < w7.heap.size by omega)).trans x_2_7
    have x_3_8 := (C8.out.cell (p := ⟨w4.heap.size, 3, none⟩) (show w4.heap.size < w7.heap.size by omega)).trans x_3_7
    have x_4_8 := (C8.out.cell (p := ⟨w4.heap.size, 4, none⟩) (show w4.heap.size < w7.heap.size by omega)).trans x_4_7
    have x_5_8 := (C8.out.cell (p := ⟨w4.heap.size, 5, none⟩) (show w4.heap.size < w7.heap.size by omega)).trans x_5_7
    have x_6_8 := (C8.out.cell (p := ⟨w4.heap.size, 6, none⟩) (show w4.heap.size < w7.heap.size by omega)).trans x_6_7
    have x_7_8 := (C8.out.cell (p := ⟨w4.heap.size, 7, none⟩) (show w4.heap.size < w7.heap.size by omega)).trans x_7_7
    have x_8_8 := (C8.out.cell (p := ⟨w4.heap.size, 8, none⟩) (show w4.heap.size < w7.heap.size by omega)).trans x_8_7
    clear x_0_7 x_1_7 x_2_7 x_3_7 x_4_7 x_5_7 x_6_7 x_7_7 x_8_7
    have O_w0_8 := Lib.hid (O_w0_7.out.later C8.out)
    clear O_w0_7
    have O_x0_a_8 := Lib.hid (O_x0_a_7.out.later C8.out)
    clear O_x0_a_7
    have O_x0_r_8 := Lib.hid (O_x0_r_7.out.later C8.out)
    clear O_x0_r_7
    have O_g0_8 := Lib.hid (O_g0_7.out.later C8.out)
    clear O_g0_7
    go_wp2_with fail
    refine (markBand_any ⟨⟨b.m.name, b.m.stage, b.m.x, Ax, b.m.x.length⟩, b.bob, b.sing, b.step, b.call, b.tru, b.rx, Rx, b.rx.length⟩ w3.heap.size gsx w4.heap.size 1 _ O_x0_a_8.out O_x0_r_8.out hgx1 hgx2 (by omega) (by simp only; omega) (by simp only; omega) (by omega) (by omega)).mono ?_
    rintro e w9 ⟨he, hc⟩
    obtain ⟨qx, hqx⟩ : ∃ q : Nat, q = 1 + b.m.x.length + b.rx.length * 2 := ⟨_, rfl⟩
    have he2 : e = .returned (.int .i64 (qx : Int)) := by rw [hqx]; exact he
    subst he2
    clear he hqx
    have C9 := Lib.hid hc
    clear hc
    have t9 := C9.out.size
    have Bw9 := Lib.hid (Below.chg Bw8.out C9.out (by omega) Bw8.out.size)
    have s_0_9 := (C9.out.cell (p := ⟨w.heap.size, 0, none⟩) (show w.heap.size < w8.heap.size by omega) (show w.heap.size < w3.heap.size ∨ w4.heap.size ≤ w.heap.size by omega)).trans s_0_8
    have s_1_9 := (C9.out.cell (p := ⟨w.heap.size, 1, none⟩) (show w.heap.size < w8.heap.size by omega) (show w.heap.size < w3.heap.size ∨ w4.heap.size ≤ w.heap.size by omega)).trans s_1_8
    have s_2_9 := (C9.out.cell (p := ⟨w.heap.size, 2, none⟩) (show w.heap.size < w8.heap.size by omega) (show w.heap.size < w3.heap.size ∨ w4.heap.size ≤ w.heap.size by omega)).trans s_2_8
    have s_3_9 := (C9.out.cell (p := ⟨w.heap.size, 3, none⟩) (show w.heap.size < w8.heap.size by omega) (show w.heap.size < w3.heap.size ∨ w4.heap.size ≤ w.heap.size by omega)).trans s_3_8
    have s_4_9 := (C9.out.cell (p := ⟨w.heap.size, 4, none⟩) (show w.heap.size < w8.heap.size by omega) (show w.heap.size < w3.heap.size ∨ w4.heap.size ≤ w.heap.size by omega)).trans s_4_8
    have s_5_9 := (C9.out.cell (p := ⟨w.heap.size, 5, none⟩) (show w.heap.size < w8.heap.size by omega) (show w.heap.size < w3.heap.size ∨ w4.heap.size ≤ w.heap.size by omega)).trans s_5_8
    have s_6_9 := (C9.out.cell (p := ⟨w.heap.size, 6, none⟩) (show w.heap.size < w8.heap.size by omega) (show w.heap.size < w3.heap.size ∨ w4.heap.size ≤ w.heap.size by omega)).trans s_6_8
    have s_7_9 := (C9.out.cell (p := ⟨w.heap.size, 7, none⟩) (show w.heap.size < w8.heap.size by omega) (show w.heap.size < w3.heap.size ∨ w4.heap.size ≤ w.heap.size by omega)).trans s_7_8
    have s_8_9 := (C9.out.cell (p := ⟨w.heap.size, 8, none⟩) (show w.heap.size < w8.heap.size by omega) (show w.heap.size < w3.heap.size ∨ w4.heap.size ≤ w.heap.size by omega)).trans s_8_8
    clear s_0_8 s_1_8 s_2_8 s_3_8 s_4_8 s_5_8 s_6_8 s_7_8 s_8_8
    have x_0_9 := (C9.out.cell (p := ⟨w4.heap.size, 0, none⟩) (show w4.heap.size < w8.heap.size by omega) (show w4.heap.size < w3.heap.size ∨ w4.heap.size ≤ w4.heap.size by omega)).trans x_0_8
    have x_1_9 := (C9.out.cell (p := ⟨w4.heap.size, 1, none⟩) (show w4.heap.size < w8.heap.size by omega) (show w4.heap.size < w3.heap.size ∨ w4.heap.size ≤ w4.heap.size by omega)).trans x_1_8
    have x_2_9 := (C9.out.cell (p := ⟨w4.heap.size, 2, none⟩) (show w4.heap.size < w8.heap.size by omega) (show w4.heap.size < w3.heap.size ∨ w4.heap.size ≤ w4.heap.size by omega)).trans x_2_8
    have x_3_9 := (C9.out.cell (p := ⟨w4.heap.size, 3, none⟩) (show w4.heap.size < w8.heap.size by omega) (show w4.heap.size < w3.heap.size ∨ w4.heap.size ≤ w4.heap.size by omega)).trans x_3_8
    have x_4_9 := (C9.out.cell (p := ⟨w4.heap.size, 4, none⟩) (show w4.heap.size < w8.heap.size by omega) (show w4.heap.size < w3.heap.size ∨ w4.heap.size ≤ w4.heap.size by omega)).trans x_4_8
    have x_5_9 := (C9.out.cell (p := ⟨w4.heap.size, 5, none⟩) (show w4.heap.size < w8.heap.size by omega) (show w4.heap.size < w3.heap.size ∨ w4.heap.size ≤ w4.heap.size by omega)).trans x_5_8
    have x_6_9 := (C9.out.cell (p := ⟨w4.heap.size, 6, none⟩) (show w4.heap.size < w8.heap.size by omega) (show w4.heap.size < w3.heap.size ∨ w4.heap.size ≤ w4.heap.size by omega)).trans x_6_8
    have x_7_9 := (C9.out.cell (p := ⟨w4.heap.size, 7, none⟩) (show w4.heap.size < w8.heap.size by omega) (show w4.heap.size < w3.heap.size ∨ w4.heap.size ≤ w4.heap.size by omega)).trans x_7_8
    have x_8_9 := (C9.out.cell (p := ⟨w4.heap.size, 8, none⟩) (show w4.heap.size < w8.heap.size by omega) (show w4.heap.size < w3.heap.size ∨ w4.heap.size ≤ w4.heap.size by omega)).trans x_8_8
    clear x_0_8 x_1_8 x_2_8 x_3_8 x_4_8 x_5_8 x_6_8 x_7_8 x_8_8
    have O_w0_9 := Lib.hid (O_w0_8.out.chg C9.out (by omega))
    clear O_w0_8
    have O_g0_9 := Lib.hid (O_g0_8.out.chg C9.out (by omega))
    clear O_g0_8
    go_wp2_with fail
    refine (eqRingActS_t ([] : List Act_) none none 0 0 _ (O_g0_9.out.rd Act__enc_len) (O_w0_9.out.rd Act__enc_len) (by simp)).mono ?_
    rintro e w10 ⟨rfl, hb⟩
    have C10 := Lib.hid hb
    clear hb
    have t10 := C10.out.size
    have Bw10 := Lib.hid (Bw9.out.trans (C10.out.mono Bw9.out.size))
    have s_0_10 := (C10.out.cell (p := ⟨w.heap.size, 0, none⟩) (show w.heap.size < w9.heap.size by omega)).trans s_0_9
    have s_1_10 := (C10.out.cell (p := ⟨w.heap.size, 1, none⟩) (show w.heap.size < w9.heap.size by omega)).trans s_1_9
    have s_2_10 := (C10.out.cell (p := ⟨w.heap.size, 2, none⟩) (show w.heap.size < w9.heap.size by omega)).trans s_2_9
    have s_3_10 := (C10.out.cell (p := ⟨w.heap.size, 3, none⟩) (show w.heap.size < w9.heap.size by omega)).trans s_3_9
    have s_4_10 := (C10.out.cell (p := ⟨w.heap.size, 4, none⟩) (show w.heap.size < w9.heap.size by omega)).trans s_4_9
    have s_5_10 := (C10.out.cell (p := ⟨w.heap.size, 5, none⟩) (show w.heap.size < w9.heap.size by omega)).trans s_5_9
    have s_6_10 := (C10.out.cell (p := ⟨w.heap.size, 6, none⟩) (show w.heap.size < w9.heap.size by omega)).trans s_6_9
    have s_7_10 := (C10.out.cell (p := ⟨w.heap.size, 7, none⟩) (show w.heap.size < w9.heap.size by omega)).trans s_7_9
    have s_8_10 := (C10.out.cell (p := ⟨w.heap.size, 8, none⟩) (show w.heap.size < w9.heap.size by omega)).trans s_8_9
    clear s_0_9 s_1_9 s_2_9 s_3_9 s_4_9 s_5_9 s_6_9 s_7_9 s_8_9
    have x_0_10 := (C10.out.cell (p := ⟨w4.heap.size, 0, none⟩) (show w4.heap.size < w9.heap.size by omega)).trans x_0_9
    have x_1_10 := (C10.out.cell (p := ⟨w4.heap.size, 1, none⟩) (show w4.heap.size < w9.heap.size by omega)).trans x_1_9
    have x_2_10 := (C10.out.cell (p := ⟨w4.heap.size, 2, none⟩) (show w4.heap.size < w9.heap.size by omega)).trans x_2_9
    have x_3_10 := (C10.out.cell (p := ⟨w4.heap.size, 3, none⟩) (show w4.heap.size < w9.heap.size by omega)).trans x_3_9
    have x_4_10 := (C10.out.cell (p := ⟨w4.heap.size, 4, none⟩) (show w4.heap.size < w9.heap.size by omega)).trans x_4_9
    have x_5_10 := (C10.out.cell (p := ⟨w4.heap.size, 5, none⟩) (show w4.heap.size < w9.heap.size by omega)).trans x_5_9
    have x_6_10 := (C10.out.cell (p := ⟨w4.heap.size, 6, none⟩) (show w4.heap.size < w9.heap.size by omega)).trans x_6_9
    have x_7_10 := (C10.out.cell (p := ⟨w4.heap.size, 7, none⟩) (show w4.heap.size < w9.heap.size by omega)).trans x_7_9
    have x_8_10 := (C10.out.cell (p := ⟨w4.heap.size, 8, none⟩) (show w4.heap.size < w9.heap.size by omega)).trans x_8_9
    clear x_0_9 x_1_9 x_2_9 x_3_9 x_4_9 x_5_9 x_6_9 x_7_9 x_8_9
    have O_w0_10 := Lib.hid (O_w0_9.out.later C10.out)
    clear O_w0_9
    have O_g0_10 := Lib.hid (O_g0_9.out.later C10.out)
    clear O_g0_9
    go_wp2_with fail
    refine (markRingActS_any ([] : List Act_) _ _ none 0 1 _ O_g0_10.out (by simp) (by omega) (by omega)).mono ?_
    rintro e w11 ⟨he, ho, hc⟩
    obtain ⟨q11, hq⟩ : ∃ q : Nat, q = 1 + ([] : List Act_).length * 4 := ⟨_, rfl⟩
    rw [← hq] at he
    subst he
    have Hq11 := Lib.hid hq
    clear hq
    have C11 := Lib.hid hc
    clear hc
    have t11 := C11.out.size
    have Bw11 := Lib.hid (Below.chg Bw10.out C11.out (by omega) Bw10.out.size)
    have s_0_11 := (C11.out.cell (p := ⟨w.heap.size, 0, none⟩) (show w.heap.size < w10.heap.size by omega) (show w.heap.size < w5.heap.size ∨ w6.heap.size ≤ w.heap.size by omega)).trans s_0_10
    have s_1_11 := (C11.out.cell (p := ⟨w.heap.size, 1, none⟩) (show w.heap.size < w10.heap.size by omega) (show w.heap.size < w5.heap.size ∨ w6.heap.size ≤ w.heap.size by omega)).trans s_1_10
    have s_2_11 := (C11.out.cell (p := ⟨w.heap.size, 2, none⟩) (show w.heap.size < w10.heap.size by omega) (show w.heap.size < w5.heap.size ∨ w6.heap.size ≤ w.heap.size by omega)).trans s_2_10
    have s_3_11 := (C11.out.cell (p := ⟨w.heap.size, 3, none⟩) (show w.heap.size < w10.heap.size by omega) (show w.heap.size < w5.heap.size ∨ w6.heap.size ≤ w.heap.size by omega)).trans s_3_10
    have s_4_11 := (C11.out.cell (p := ⟨w.heap.size, 4, none⟩) (show w.heap.size < w10.heap.size by omega) (show w.heap.size < w5.heap.size ∨ w6.heap.size ≤ w.heap.size by omega)).trans s_4_10
    have s_5_11 := (C11.out.cell (p := ⟨w.heap.size, 5, none⟩) (show w.heap.size < w10.heap.size by omega) (show w.heap.size < w5.heap.size ∨ w6.heap.size ≤ w.heap.size by omega)).trans s_5_10
    have s_6_11 := (C11.out.cell (p := ⟨w.heap.size, 6, none⟩) (show w.heap.size < w10.heap.size by omega) (show w.heap.size < w5.heap.size ∨ w6.heap.size ≤ w.heap.size by omega)).trans s_6_10
    have s_7_11 := (C11.out.cell (p := ⟨w.heap.size, 7, none⟩) (show w.heap.size < w10.heap.size by omega) (show w.heap.size < w5.heap.size ∨ w6.heap.size ≤ w.heap.size by omega)).trans s_7_10
    have s_8_11 := (C11.out.cell (p := ⟨w.heap.size, 8, none⟩) (show w.heap.size < w10.heap.size by omega) (show w.heap.size < w5.heap.size ∨ w6.heap.size ≤ w.heap.size by omega)).trans s_8_10
    clear s_0_10 s_1_10 s_2_10 s_3_10 s_4_10 s_5_10 s_6_10 s_7_10 s_8_10
    have x_0_11 := (C11.out.cell (p := ⟨w4.heap.size, 0, none⟩) (show w4.heap.size < w10.heap.size by omega) (show w4.heap.size < w5.heap.size ∨ w6.heap.size ≤ w4.heap.size by omega)).trans x_0_10
    have x_1_11 := (C11.out.cell (p := ⟨w4.heap.size, 1, none⟩) (show w4.heap.size < w10.heap.size by omega) (show w4.heap.size < w5.heap.size ∨ w6.heap.size ≤ w4.heap.size by omega)).trans x_1_10
    have x_2_11 := (C11.out.cell (p := ⟨w4.heap.size, 2, none⟩) (show w4.heap.size < w10.heap.size by omega) (show w4.heap.size < w5.heap.size ∨ w6.heap.size ≤ w4.heap.size by omega)).trans x_2_10
    have x_3_11 := (C11.out.cell (p := ⟨w4.heap.size, 3, none⟩) (show w4.heap.size < w10.heap.size by omega) (show w4.heap.size < w5.heap.size ∨ w6.heap.size ≤ w4.heap.size by omega)).trans x_3_10
    have x_4_11 := (C11.out.cell (p := ⟨w4.heap.size, 4, none⟩) (show w4.heap.size < w10.heap.size by omega) (show w4.heap.size < w5.heap.size ∨ w6.heap.size ≤ w4.heap.size by omega)).trans x_4_10
    have x_5_11 := (C11.out.cell (p := ⟨w4.heap.size, 5, none⟩) (show w4.heap.size < w10.heap.size by omega) (show w4.heap.size < w5.heap.size ∨ w6.heap.size ≤ w4.heap.size by omega)).trans x_5_10
    have x_6_11 := (C11.out.cell (p := ⟨w4.heap.size, 6, none⟩) (show w4.heap.size < w10.heap.size by omega) (show w4.heap.size < w5.heap.size ∨ w6.heap.size ≤ w4.heap.size by omega)).trans x_6_10
    have x_7_11 := (C11.out.cell (p := ⟨w4.heap.size, 7, none⟩) (show w4.heap.size < w10.heap.size by omega) (show w4.heap.size < w5.heap.size ∨ w6.heap.size ≤ w4.heap.size by omega)).trans x_7_10
    have x_8_11 := (C11.out.cell (p := ⟨w4.heap.size, 8, none⟩) (show w4.heap.size < w10.heap.size by omega) (show w4.heap.size < w5.heap.size ∨ w6.heap.size ≤ w4.heap.size by omega)).trans x_8_10
    clear x_0_10 x_1_10 x_2_10 x_3_10 x_4_10 x_5_10 x_6_10 x_7_10 x_8_10
    have O_w0_11 := Lib.hid (O_w0_10.out.chg C11.out (by omega))
    clear O_w0_10
    have O_g0_11 := Lib.hid ho
    clear ho O_g0_10
    go_wp2_with fail
    refine (heldRingActS_any ([] : List Act_).length none 0 1 _ (O_g0_11.out.rd Act__enc_len) (by simp) (by omega) (by omega)).mono ?_
    rintro e w12 ⟨he, hb⟩
    rw [← Hq11.out] at he
    subst he
    have C12 := Lib.hid hb
    clear hb
    have t12 := C12.out.size
    have Bw12 := Lib.hid (Bw11.out.trans (C12.out.mono Bw11.out.size))
    have s_0_12 := (C12.out.cell (p := ⟨w.heap.size, 0, none⟩) (show w.heap.size < w11.heap.size by omega)).trans s_0_11
    have s_1_12 := (C12.out.cell (p := ⟨w.heap.size, 1, none⟩) (show w.heap.size < w11.heap.size by omega)).trans s_1_11
    have s_2_12 := (C12.out.cell (p := ⟨w.heap.size, 2, none⟩) (show w.heap.size < w11.heap.size by omega)).trans s_2_11
    have s_3_12 := (C12.out.cell (p := ⟨w.heap.size, 3, none⟩) (show w.heap.size < w11.heap.size by omega)).trans s_3_11
    have s_4_12 := (C12.out.cell (p := ⟨w.heap.size, 4, none⟩) (show w.heap.size < w11.heap.size by omega)).trans s_4_11
    have s_5_12 := (C12.out.cell (p := ⟨w.heap.size, 5, none⟩) (show w.heap.size < w11.heap.size by omega)).trans s_5_11
    have s_6_12 := (C12.out.cell (p := ⟨w.heap.size, 6, none⟩) (show w.heap.size < w11.heap.size by omega)).trans s_6_11
    have s_7_12 := (C12.out.cell (p := ⟨w.heap.size, 7, none⟩) (show w.heap.size < w11.heap.size by omega)).trans s_7_11
    have s_8_12 := (C12.out.cell (p := ⟨w.heap.size, 8, none⟩) (show w.heap.size < w11.heap.size by omega)).trans s_8_11
    clear s_0_11 s_1_11 s_2_11 s_3_11 s_4_11 s_5_11 s_6_11 s_7_11 s_8_11
    have x_0_12 := (C12.out.cell (p := ⟨w4.heap.size, 0, none⟩) (show w4.heap.size < w11.heap.size by omega)).trans x_0_11
    have x_1_12 := (C12.out.cell (p := ⟨w4.heap.size, 1, none⟩) (show w4.heap.size < w11.heap.size by omega)).trans x_1_11
    have x_2_12 := (C12.out.cell (p := ⟨w4.heap.size, 2, none⟩) (show w4.heap.size < w11.heap.size by omega)).trans x_2_11
    have x_3_12 := (C12.out.cell (p := ⟨w4.heap.size, 3, none⟩) (show w4.heap.size < w11.heap.size by omega)).trans x_3_11
    have x_4_12 := (C12.out.cell (p := ⟨w4.heap.size, 4, none⟩) (show w4.heap.size < w11.heap.size by omega)).trans x_4_11
    have x_5_12 := (C12.out.cell (p := ⟨w4.heap.size, 5, none⟩) (show w4.heap.size < w11.heap.size by omega)).trans x_5_11
    have x_6_12 := (C12.out.cell (p := ⟨w4.heap.size, 6, none⟩) (show w4.heap.size < w11.heap.size by omega)).trans x_6_11
    have x_7_12 := (C12.out.cell (p := ⟨w4.heap.size, 7, none⟩) (show w4.heap.size < w11.heap.size by omega)).trans x_7_11
    have x_8_12 := (C12.out.cell (p := ⟨w4.heap.size, 8, none⟩) (show w4.heap.size < w11.heap.size by omega)).trans x_8_11
    clear x_0_11 x_1_11 x_2_11 x_3_11 x_4_11 x_5_11 x_6_11 x_7_11 x_8_11
    have O_w0_12 := Lib.hid (O_w0_11.out.later C12.out)
    clear O_w0_11
    have O_g0_12 := Lib.hid (O_g0_11.out.later C12.out)
    clear O_g0_11
    go_wp2_with fail
    refine (toBand_any b w12 ((H.out.below Bw12.out (Nat.le_refl _)).more Bw12.out.size) ((Hr.out.below Bw12.out (Nat.le_refl _)).more Bw12.out.size) (by omega) (by omega)).mono ?_
    rintro e w13 ⟨Aa13, Ar13, rfl, ho1, ho3, hb⟩
    have C13 := Lib.hid hb
    clear hb
    have t13 := C13.out.size
    have Bw13 := Lib.hid (Bw12.out.trans (C13.out.mono Bw12.out.size))
    have s_0_13 := (C13.out.cell (p := ⟨w.heap.size, 0, none⟩) (show w.heap.size < w12.heap.size by omega)).trans s_0_12
    have s_1_13 := (C13.out.cell (p := ⟨w.heap.size, 1, none⟩) (show w.heap.size < w12.heap.size by omega)).trans s_1_12
    have s_2_13 := (C13.out.cell (p := ⟨w.heap.size, 2, none⟩) (show w.heap.size < w12.heap.size by omega)).trans s_2_12
    have s_3_13 := (C13.out.cell (p := ⟨w.heap.size, 3, none⟩) (show w.heap.size < w12.heap.size by omega)).trans s_3_12
    have s_4_13 := (C13.out.cell (p := ⟨w.heap.size, 4, none⟩) (show w.heap.size < w12.heap.size by omega)).trans s_4_12
    have s_5_13 := (C13.out.cell (p := ⟨w.heap.size, 5, none⟩) (show w.heap.size < w12.heap.size by omega)).trans s_5_12
    have s_6_13 := (C13.out.cell (p := ⟨w.heap.size, 6, none⟩) (show w.heap.size < w12.heap.size by omega)).trans s_6_12
    have s_7_13 := (C13.out.cell (p := ⟨w.heap.size, 7, none⟩) (show w.heap.size < w12.heap.size by omega)).trans s_7_12
    have s_8_13 := (C13.out.cell (p := ⟨w.heap.size, 8, none⟩) (show w.heap.size < w12.heap.size by omega)).trans s_8_12
    clear s_0_12 s_1_12 s_2_12 s_3_12 s_4_12 s_5_12 s_6_12 s_7_12 s_8_12
    have x_0_13 := (C13.out.cell (p := ⟨w4.heap.size, 0, none⟩) (show w4.heap.size < w12.heap.size by omega)).trans x_0_12
    have x_1_13 := (C13.out.cell (p := ⟨w4.heap.size, 1, none⟩) (show w4.heap.size < w12.heap.size by omega)).trans x_1_12
    have x_2_13 := (C13.out.cell (p := ⟨w4.heap.size, 2, none⟩) (show w4.heap.size < w12.heap.size by omega)).trans x_2_12
    have x_3_13 := (C13.out.cell (p := ⟨w4.heap.size, 3, none⟩) (show w4.heap.size < w12.heap.size by omega)).trans x_3_12
    have x_4_13 := (C13.out.cell (p := ⟨w4.heap.size, 4, none⟩) (show w4.heap.size < w12.heap.size by omega)).trans x_4_12
    have x_5_13 := (C13.out.cell (p := ⟨w4.heap.size, 5, none⟩) (show w4.heap.size < w12.heap.size by omega)).trans x_5_12
    have x_6_13 := (C13.out.cell (p := ⟨w4.heap.size, 6, none⟩) (show w4.heap.size < w12.heap.size by omega)).trans x_6_12
    have x_7_13 := (C13.out.cell (p := ⟨w4.heap.size, 7, none⟩) (show w4.heap.size < w12.heap.size by omega)).trans x_7_12
    have x_8_13 := (C13.out.cell (p := ⟨w4.heap.size, 8, none⟩) (show w4.heap.size < w12.heap.size by omega)).trans x_8_12
    clear x_0_12 x_1_12 x_2_12 x_3_12 x_4_12 x_5_12 x_6_12 x_7_12 x_8_12
    have O_w0_13 := Lib.hid (O_w0_12.out.later C13.out)
    clear O_w0_12
    have O_g0_13 := Lib.hid (O_g0_12.out.later C13.out)
    clear O_g0_12
    have ok13 : Bnd.Ok ⟨⟨b.m.name, b.m.stage, b.m.x, Aa13, b.m.x.length⟩, b.bob, b.sing, b.step, b.call, b.tru, b.rx, Ar13, b.rx.length⟩ w13 := ⟨ho1.rd encString_len, ho3.rd Rgr_enc_len, by simp only; omega, by simp only; omega, M3.out, by simp only; omega, by simp only; omega, by simp only; omega, by simp only; omega, by simp only; omega⟩
    have OK13 := Lib.hid ok13
    clear ok13 ho1 ho3
    go_wp2_with fail
    refine (iPutRight_f ⟨⟨b.m.name, b.m.stage, b.m.x, Aa13, b.m.x.length⟩, b.bob, b.sing, b.step, b.call, b.tru, b.rx, Ar13, b.rx.length⟩ _ OK13.out HP.out).mono ?_
    rintro e w14 ⟨rfl, hb⟩
    have C14 := Lib.hid hb
    clear hb
    have t14 := C14.out.size
    have Bw14 := Lib.hid (Bw13.out.trans (C14.out.mono Bw13.out.size))
    have s_0_14 := (C14.out.cell (p := ⟨w.heap.size, 0, none⟩) (show w.heap.size < w13.heap.size by omega)).trans s_0_13
    have s_1_14 := (C14.out.cell (p := ⟨w.heap.size, 1, none⟩) (show w.heap.size < w13.heap.size by omega)).trans s_1_13
    have s_2_14 := (C14.out.cell (p := ⟨w.heap.size, 2, none⟩) (show w.heap.size < w13.heap.size by omega)).trans s_2_13
    have s_3_14 := (C14.out.cell (p := ⟨w.heap.size, 3, none⟩) (show w.heap.size < w13.heap.size by omega)).trans s_3_13
    have s_4_14 := (C14.out.cell (p := ⟨w.heap.size, 4, none⟩) (show w.heap.size < w13.heap.size by omega)).trans s_4_13
    have s_5_14 := (C14.out.cell (p := ⟨w.heap.size, 5, none⟩) (show w.heap.size < w13.heap.size by omega)).trans s_5_13
    have s_6_14 := (C14.out.cell (p := ⟨w.heap.size, 6, none⟩) (show w.heap.size < w13.heap.size by omega)).trans s_6_13
    have s_7_14 := (C14.out.cell (p := ⟨w.heap.size, 7, none⟩) (show w.heap.size < w13.heap.size by omega)).trans s_7_13
    have s_8_14 := (C14.out.cell (p := ⟨w.heap.size, 8, none⟩) (show w.heap.size < w13.heap.size by omega)).trans s_8_13
    clear s_0_13 s_1_13 s_2_13 s_3_13 s_4_13 s_5_13 s_6_13 s_7_13 s_8_13
    have x_0_14 := (C14.out.cell (p := ⟨w4.heap.size, 0, none⟩) (show w4.heap.size < w13.heap.size by omega)).trans x_0_13
    have x_1_14 := (C14.out.cell (p := ⟨w4.heap.size, 1, none⟩) (show w4.heap.size < w13.heap.size by omega)).trans x_1_13
    have x_2_14 := (C14.out.cell (p := ⟨w4.heap.size, 2, none⟩) (show w4.heap.size < w13.heap.size by omega)).trans x_2_13
    have x_3_14 := (C14.out.cell (p := ⟨w4.heap.size, 3, none⟩) (show w4.heap.size < w13.heap.size by omega)).trans x_3_13
    have x_4_14 := (C14.out.cell (p := ⟨w4.heap.size, 4, none⟩) (show w4.heap.size < w13.heap.size by omega)).trans x_4_13
    have x_5_14 := (C14.out.cell (p := ⟨w4.heap.size, 5, none⟩) (show w4.heap.size < w13.heap.size by omega)).trans x_5_13
    have x_6_14 := (C14.out.cell (p := ⟨w4.heap.size, 6, none⟩) (show w4.heap.size < w13.heap.size by omega)).trans x_6_13
    have x_7_14 := (C14.out.cell (p := ⟨w4.heap.size, 7, none⟩) (show w4.heap.size < w13.heap.size by omega)).trans x_7_13
    have x_8_14 := (C14.out.cell (p := ⟨w4.heap.size, 8, none⟩) (show w4.heap.size < w13.heap.size by omega)).trans x_8_13
    clear x_0_13 x_1_13 x_2_13 x_3_13 x_4_13 x_5_13 x_6_13 x_7_13 x_8_13
    have O_w0_14 := Lib.hid (O_w0_13.out.later C14.out)
    clear O_w0_13
    have O_g0_14 := Lib.hid (O_g0_13.out.later C14.out)
    clear O_g0_13
    have O_h0_14 : Hid (OwnL w14 w13.heap.size w14.heap.size none 4 Act_.enc ([] : List Act_)) := Lib.hid OwnL.nil
    go_wp2_with fail
    refine (eqRingActS_t ([] : List Act_) none none 0 0 _ (O_h0_14.out.rd Act__enc_len) (O_w0_14.out.rd Act__enc_len) (by simp)).mono ?_
    rintro e w15 ⟨rfl, hb⟩
    have C15 := Lib.hid hb
    clear hb
    have t15 := C15.out.size
    have Bw15 := Lib.hid (Bw14.out.trans (C15.out.mono Bw14.out.size))
    have s_0_15 := (C15.out.cell (p := ⟨w.heap.size, 0, none⟩) (show w.heap.size < w14.heap.size by omega)).trans s_0_14
    have s_1_15 := (C15.out.cell (p := ⟨w.heap.size, 1, none⟩) (show w.heap.size < w14.heap.size by omega)).trans s_1_14
    have s_2_15 := (C15.out.cell (p := ⟨w.heap.size, 2, none⟩) (show w.heap.size < w14.heap.size by omega)).trans s_2_14
    have s_3_15 := (C15.out.cell (p := ⟨w.heap.size, 3, none⟩) (show w.heap.size < w14.heap.size by omega)).trans s_3_14
    have s_4_15 := (C15.out.cell (p := ⟨w.heap.size, 4, none⟩) (show w.heap.size < w14.heap.size by omega)).trans s_4_14
    have s_5_15 := (C15.out.cell (p := ⟨w.heap.size, 5, none⟩) (show w.heap.size < w14.heap.size by omega)).trans s_5_14
    have s_6_15 := (C15.out.cell (p := ⟨w.heap.size, 6, none⟩) (show w.heap.size < w14.heap.size by omega)).trans s_6_14
    have s_7_15 := (C15.out.cell (p := ⟨w.heap.size, 7, none⟩) (show w.heap.size < w14.heap.size by omega)).trans s_7_14
    have s_8_15 := (C15.out.cell (p := ⟨w.heap.size, 8, none⟩) (show w.heap.size < w14.heap.size by omega)).trans s_8_14
    clear s_0_14 s_1_14 s_2_14 s_3_14 s_4_14 s_5_14 s_6_14 s_7_14 s_8_14
    have x_0_15 := (C15.out.cell (p := ⟨w4.heap.size, 0, none⟩) (show w4.heap.size < w14.heap.size by omega)).trans x_0_14
    have x_1_15 := (C15.out.cell (p := ⟨w4.heap.size, 1, none⟩) (show w4.heap.size < w14.heap.size by omega)).trans x_1_14
    have x_2_15 := (C15.out.cell (p := ⟨w4.heap.size, 2, none⟩) (show w4.heap.size < w14.heap.size by omega)).trans x_2_14
    have x_3_15 := (C15.out.cell (p := ⟨w4.heap.size, 3, none⟩) (show w4.heap.size < w14.heap.size by omega)).trans x_3_14
    have x_4_15 := (C15.out.cell (p := ⟨w4.heap.size, 4, none⟩) (show w4.heap.size < w14.heap.size by omega)).trans x_4_14
    have x_5_15 := (C15.out.cell (p := ⟨w4.heap.size, 5, none⟩) (show w4.heap.size < w14.heap.size by omega)).trans x_5_14
    have x_6_15 := (C15.out.cell (p := ⟨w4.heap.size, 6, none⟩) (show w4.heap.size < w14.heap.size by omega)).trans x_6_14
    have x_7_15 := (C15.out.cell (p := ⟨w4.heap.size, 7, none⟩) (show w4.heap.size < w14.heap.size by omega)).trans x_7_14
    have x_8_15 := (C15.out.cell (p := ⟨w4.heap.size, 8, none⟩) (show w4.heap.size < w14.heap.size by omega)).trans x_8_14
    clear x_0_14 x_1_14 x_2_14 x_3_14 x_4_14 x_5_14 x_6_14 x_7_14 x_8_14
    have O_g0_15 := Lib.hid (O_g0_14.out.later C15.out)
    clear O_g0_14
    go_wp2_with fail
    refine (heldRingActS_any ([] : List Act_).length none 0 1 _ (O_g0_15.out.rd Act__enc_len) (by simp) (by omega) (by omega)).mono ?_
    rintro e w16 ⟨he, hb⟩
    rw [← Hq11.out] at he
    subst he
    have C16 := Lib.hid hb
    clear hb
    have t16 := C16.out.size
    have Bw16 := Lib.hid (Bw15.out.trans (C16.out.mono Bw15.out.size))
    have s_0_16 := (C16.out.cell (p := ⟨w.heap.size, 0, none⟩) (show w.heap.size < w15.heap.size by omega)).trans s_0_15
    have s_1_16 := (C16.out.cell (p := ⟨w.heap.size, 1, none⟩) (show w.heap.size < w15.heap.size by omega)).trans s_1_15
    have s_2_16 := (C16.out.cell (p := ⟨w.heap.size, 2, none⟩) (show w.heap.size < w15.heap.size by omega)).trans s_2_15
    have s_3_16 := (C16.out.cell (p := ⟨w.heap.size, 3, none⟩) (show w.heap.size < w15.heap.size by omega)).trans s_3_15
    have s_4_16 := (C16.out.cell (p := ⟨w.heap.size, 4, none⟩) (show w.heap.size < w15.heap.size by omega)).trans s_4_15
    have s_5_16 := (C16.out.cell (p := ⟨w.heap.size, 5, none⟩) (show w.heap.size < w15.heap.size by omega)).trans s_5_15
    have s_6_16 := (C16.out.cell (p := ⟨w.heap.size, 6, none⟩) (show w.heap.size < w15.heap.size by omega)).trans s_6_15
    have s_7_16 := (C16.out.cell (p := ⟨w.heap.size, 7, none⟩) (show w.heap.size < w15.heap.size by omega)).trans s_7_15
    have s_8_16 := (C16.out.cell (p := ⟨w.heap.size, 8, none⟩) (show w.heap.size < w15.heap.size by omega)).trans s_8_15
    clear s_0_15 s_1_15 s_2_15 s_3_15 s_4_15 s_5_15 s_6_15 s_7_15 s_8_15
    have x_0_16 := (C16.out.cell (p := ⟨w4.heap.size, 0, none⟩) (show w4.heap.size < w15.heap.size by omega)).trans x_0_15
    have x_1_16 := (C16.out.cell (p := ⟨w4.heap.size, 1, none⟩) (show w4.heap.size < w15.heap.size by omega)).trans x_1_15
    have x_2_16 := (C16.out.cell (p := ⟨w4.heap.size, 2, none⟩) (show w4.heap.size < w15.heap.size by omega)).trans x_2_15
    have x_3_16 := (C16.out.cell (p := ⟨w4.heap.size, 3, none⟩) (show w4.heap.size < w15.heap.size by omega)).trans x_3_15
    have x_4_16 := (C16.out.cell (p := ⟨w4.heap.size, 4, none⟩) (show w4.heap.size < w15.heap.size by omega)).trans x_4_15
    have x_5_16 := (C16.out.cell (p := ⟨w4.heap.size, 5, none⟩) (show w4.heap.size < w15.heap.size by omega)).trans x_5_15
    have x_6_16 := (C16.out.cell (p := ⟨w4.heap.size, 6, none⟩) (show w4.heap.size < w15.heap.size by omega)).trans x_6_15
    have x_7_16 := (C16.out.cell (p := ⟨w4.heap.size, 7, none⟩) (show w4.heap.size < w15.heap.size by omega)).trans x_7_15
    have x_8_16 := (C16.out.cell (p := ⟨w4.heap.size, 8, none⟩) (show w4.heap.size < w15.heap.size by omega)).trans x_8_15
    clear x_0_15 x_1_15 x_2_15 x_3_15 x_4_15 x_5_15 x_6_15 x_7_15 x_8_15
    go_wp2_with fail
    go_ret
    exact ⟨rfl, Bw16.out⟩

namespace fnExactPutRight
open Go.ChangeShapes Go.WideShapes Go.ChangeAt Go.RowKit Go.Deep
open Go.ChangeMaps (open_string shut_string)
theorem own : ownKnob Try.prog.godebug = none := by kernel_rfl
theorem laid : laidOutB Try.prog = true := by kernel_rfl
theorem reads : Try.f7.params.toList.all (fun t => Try.prog.readableRec t && decide (t < Try.prog.types.size)) = true := by kernel_rfl
set_option maxRecDepth 100000 in
theorem lifted (os : Os) (started : os.Started) (H : Type) (enc : TypeId × Value → H) :
    ReturnsInHanded {} Try.checked os 7 .any (Rows.fnExactPutRightSpec.pre6 enc Try.prog Try.f7 Rows.fnExactPutRightRow.domain false) (Rows.fnExactPutRightSpec.post enc Try.prog Try.f7 false true false false) := by
  refine returnsInHanded_of_change (C := Try.checked) own started (by kernel_rfl) Try.func7
    (ChangeSpec.witness6 (enc := enc) (C := Try.checked) false ⟨#[], #[.agg #[.string ByteArray.empty, .int .i64 0, .slice none 0 0, .string ByteArray.empty, .string ByteArray.empty, .int .i64 0, .string ByteArray.empty, .string ByteArray.empty, .slice none 0 0]], []⟩ 8 (by kernel_rfl) (by kernel_rfl) (by kernel_rfl) (by kernel_rfl)) ?_
  intro W base args ds gs before hval0 hW hcnd _
  have hval : ∀ (j : Nat) t v, Try.f7.params[j]? = some t → args[j]? = some v → Value.okWide Try.prog W .any base t v := hval0
  have hW' := hW
  obtain ⟨p, q, hA0, hV, rfl, hfz, hnd⟩ := hW
  have hA : DataW.TrodAll enc Try.prog W 0 (fun _ => true) true Try.f7.params.toList args.toList ds p := hA0
  rw [Try.params7] at hA hval
  obtain ⟨rfl, rfl⟩ := trodVars_none hV
  have hlt : ∀ x ∈ p, x.block < W.heap.size := fun x hx => by simpa using hW'.lt x (List.mem_append.2 (.inl hx))
  clear hA0 hval0
  obtain ⟨v0, vs0, d0, ds0, p0, q0, hargs, rfl, rfl, h0, r0⟩ := trodAll_cons hA
  obtain ⟨rfl, rfl, rfl⟩ := trodAll_nil r0
  obtain rfl : args = #[v0] := by cases args; simp_all
  clear hargs
  obtain ⟨b, rfl, hfit, hrd, hrd2, _⟩ := open_struct Try.underlying47 Bnd.enc _ Band_el (hval 0 47 v0 rfl rfl) h0
  refine (putRightLaw W b hrd hrd2 hfit).mono fun e W' ⟨he, hg⟩ => ?_
  subst he
  exact ⟨_, rfl, law_post laid reads rfl Try.underlying4 rfl rfl hW' hg⟩
theorem over : Rows.fnExactPutRightRow.holds Try.pinned (OpenSpec.ofChange Rows.fnExactPutRightSpec) :=
  OpenClaim.holds_of_wide 7 Try.f7 rfl rfl rfl rfl rfl rfl rfl ⟨rfl, rfl, rfl, rfl, rfl⟩ rfl rfl rfl rfl rfl (by kernel_rfl) Try.func7 (by kernel_rfl)
    (of_decide_eq_true (by kernel_rfl)) (by unfold Func.isWrapper; first | (rw [if_pos (by decide +kernel)]; kernel_rfl) | (rw [if_neg (by decide +kernel)]; exact ⟨rfl, rfl⟩))
    (fun os started H enc _ => lifted os started H enc)
theorem proved : Rows.FnExactPutRightSaid := over
end fnExactPutRight
end Go.Proofs.Ytgdmnkccilnbgaa
