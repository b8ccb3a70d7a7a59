/-
  FindLike of the program returns what the reference's returns, for all arguments: no condition.
-/
import Derived.Test.YtdegbckoejddeaaBook
namespace Go.Proofs.Ytdegbckoejddeaa
open Go.RowKit
set_option linter.unusedVariables false
set_option linter.unusedSimpArgs false
set_option maxRecDepth 100000



/-- A valid book and a valid touch. -/
def findP (l : List Rcd) (t : ByteArray) : Prop := bookP l ∧ touchP t
theorem findP_touch {l : List Rcd} (h : bookP l) : ∀ (j : Nat) (hj : j < l.length), j < l.length → touchP l[j].touch := fun j hj _ => (h.2 j hj).1.2.2.1

theorem most0_t (x : Int) (w : World) (h : 0 < x) : Calls Try.prog 107 #[.int .i64 x, .int .i64 0] w fun e w' => e = .returned (.int .i64 x) ∧ w = w' := by
  go_enter Try.func107, Try.ntmps107
  go_wp2
  go_ret
  exact ⟨rfl, rfl⟩
theorem most0_f (x : Int) (w : World) (h : x ≤ 0) : Calls Try.prog 107 #[.int .i64 x, .int .i64 0] w fun e w' => e = .returned (.int .i64 0) ∧ w = w' := by
  go_enter Try.func107, Try.ntmps107
  go_wp2
  go_ret
  exact ⟨rfl, rfl⟩
set_option maxHeartbeats 1600000 in
theorem l28Find_any (l : List Rcd) (A : Option Addr) (c : Nat) (x : Rcd) (w : World) (h : RdL w w.heap.size A 5 Rcd.enc l) (hl : l.length ≤ 1048576) (h1 : ∀ (j : Nat) (hj : j < l.length), j < l.length → touchP l[j].touch) (h2 : touchP x.touch) :
    Calls Try.prog 106 #[.slice A l.length c, .agg #[.int .i64 x.day, .string x.meth, .string x.touch, .int .i64 x.rows, .string x.note]] w fun e w' => e = .returned (.int .i64 (firstLike l x.meth x.touch l.length)) ∧ Below w.heap.size w w' := by
  have Hr := Lib.hid h
  have H1 := Lib.hid h1
  have H2 := Lib.hid h2
  clear h h1 h2
  have hb0 : Hid (Below w.heap.size w (w.alloc (.cells #[.int .i64 x.day, .string x.meth, .string x.touch, .int .i64 x.rows, .string x.note] 109))) := Lib.hid ((Below.refl _ _).alloc (Nat.le_refl _) _)
  have s0 : Hid ((w.alloc (.cells #[.int .i64 x.day, .string x.meth, .string x.touch, .int .i64 x.rows, .string x.note] 109)).cell? ⟨w.heap.size, 0, none⟩ = some (.int .i64 x.day)) := Lib.hid (by simp [go_sem])
  have s1 : Hid ((w.alloc (.cells #[.int .i64 x.day, .string x.meth, .string x.touch, .int .i64 x.rows, .string x.note] 109)).cell? ⟨w.heap.size, 1, none⟩ = some (.string x.meth)) := Lib.hid (by simp [go_sem])
  have s2 : Hid ((w.alloc (.cells #[.int .i64 x.day, .string x.meth, .string x.touch, .int .i64 x.rows, .string x.note] 109)).cell? ⟨w.heap.size, 2, none⟩ = some (.string x.touch)) := Lib.hid (by simp [go_sem])
  have s3 : Hid ((w.alloc (.cells #[.int .i64 x.day, .string x.meth, .string x.touch, .int .i64 x.rows, .string x.note] 109)).cell? ⟨w.heap.size, 3, none⟩ = some (.int .i64 x.rows)) := Lib.hid (by simp [go_sem])
  have s4 : Hid ((w.alloc (.cells #[.int .i64 x.day, .string x.meth, .string x.touch, .int .i64 x.rows, .string x.note] 109)).cell? ⟨w.heap.size, 4, none⟩ = some (.string x.note)) := Lib.hid (by simp [go_sem])
  go_enter Try.func106, Try.ntmps106
  go_wp2
  go_loopw [9] (fun i wr => ∃ k : Nat, k ≤ l.length ∧ i = .int .i64 k ∧ (∀ (j : Nat) (hj : j < l.length), j < k → ¬ alikeP l[j] x.meth x.touch) ∧ Below (w.alloc (.cells #[.int .i64 x.day, .string x.meth, .string x.touch, .int .i64 x.rows, .string x.note] 109)).heap.size (w.alloc (.cells #[.int .i64 x.day, .string x.meth, .string x.touch, .int .i64 x.rows, .string x.note] 109)) wr) (fun i _ => l.length - (intOf i).toNat)
  case atStart => exact ⟨0, by omega, by rfl, fun j _ h => by omega, Below.refl _ _⟩
  case round =>
    obtain ⟨k, hk, rfl, hq, hbl⟩ := hrel
    have Hq := Lib.hid hq
    have Hb := Lib.hid hbl
    have Hbl : Hid (Below w.heap.size w wr) := Lib.hid (hb0.out.trans (hbl.mono hb0.out.size))
    have hgs := Hbl.out.size
    have hg1 : w.heap.size < wr.heap.size := Nat.lt_of_lt_of_le (by simp) hbl.size
    have hbs := hbl.size
    clear hq hbl
    by_cases hlt : k < l.length
    · obtain ⟨g, off, hA, hg, hcell⟩ := Hr.out.at hlt
      subst hA
      have r0 := (Hbl.out.cell (p := ⟨g, off + k * 5, none⟩) hg).trans (hcell 0 _ rfl)
      have r1 := (Hbl.out.cell (p := ⟨g, off + k * 5 + 1, none⟩) hg).trans (hcell 1 _ rfl)
      have r2 := (Hbl.out.cell (p := ⟨g, off + k * 5 + 2, none⟩) hg).trans (hcell 2 _ rfl)
      have r3 := (Hbl.out.cell (p := ⟨g, off + k * 5 + 3, none⟩) hg).trans (hcell 3 _ rfl)
      have r4 := (Hbl.out.cell (p := ⟨g, off + k * 5 + 4, none⟩) hg).trans (hcell 4 _ rfl)
      have b0 := (Hb.out.cell (p := ⟨w.heap.size, 0, none⟩) (by simp)).trans s0.out
      have b1 := (Hb.out.cell (p := ⟨w.heap.size, 1, none⟩) (by simp)).trans s1.out
      have b2 := (Hb.out.cell (p := ⟨w.heap.size, 2, none⟩) (by simp)).trans s2.out
      have b3 := (Hb.out.cell (p := ⟨w.heap.size, 3, none⟩) (by simp)).trans s3.out
      have b4 := (Hb.out.cell (p := ⟨w.heap.size, 4, none⟩) (by simp)).trans s4.out
      have tz := H1.out k hlt hlt
      obtain ⟨z, hz⟩ : ∃ z, Hid (l[k] = z) := ⟨_, Lib.hid rfl⟩
      rw [hz.out] at r0 r1 r2 r3 r4 tz
      have Tz := Lib.hid tz
      have hgw2 : g < wr.heap.size := by omega
      clear hcell tz
      by_cases e : alikeP z x.meth x.touch
      · have e5 := B_t e
        have E := Lib.hid e
        clear e
        go_wp2_with (go_at_call 137; refine (l28Alike_any z x _ Tz.out H2.out).mono ?_; rintro e w' ⟨rfl, hb3⟩)
        go_ret
        exact ⟨ret_int (firstLike_some hlt (by rw [hz.out]; exact E.out) Hq.out _ hlt).symm, (Hbl.out.alloc hgs _).trans (hb3.mono (by simp; omega))⟩
      · have e5 := B_f e
        have E := Lib.hid e
        clear e
        go_wp2_with (go_at_call 137; refine (l28Alike_any z x _ Tz.out H2.out).mono ?_; rintro e w' ⟨rfl, hb3⟩)
        go_roundw
        case rel =>
          refine ⟨k + 1, by omega, by go_num, fun j hj h1 => ?_, (Hb.out.alloc hbs _).trans (hb3.mono (by simp at hbs ⊢; omega))⟩
          rcases Nat.lt_or_eq_of_le (Nat.le_of_lt_succ h1) with h' | rfl
          · exact Hq.out j hj h'
          · rw [hz.out]; exact E.out
        case measure => simp [intOf]; omega
    · obtain rfl : k = l.length := by omega
      go_wp2
      go_ret
      exact ⟨ret_int (firstLike_none _ Hq.out).symm, Hbl.out⟩


set_option maxHeartbeats 1600000 in
theorem sFind_t (l : List Rcd) (A : Option Addr) (c : Nat) (m t : ByteArray) (w : World) (h : RdL w w.heap.size A 5 Rcd.enc l) (hl : l.length ≤ 1048576) (hc : l.length ≤ c) (hs : ∀ x ∈ l, Record_small 1048576 x) (hsm : m.size ≤ 1048576) (hst : t.size ≤ 1048576) (hf : findP l t) (hp : 0 ≤ firstLike l m t l.length) :
    Calls Try.prog 42 #[.slice A l.length c, .string m, .string t] w fun e w' => e = .returned (.tuple #[.int .i64 (firstLike l m t l.length), .bool true]) ∧ Below w.heap.size w w' := by
  have Hr := Lib.hid h
  have Hs := Lib.hid hs
  have HT := Lib.hid (findP_touch hf.1)
  have H2 := Lib.hid hf.2
  have e1 := B_t hf.1
  have e2 := B_t hf.2
  obtain ⟨r, HR⟩ : ∃ r, Hid (firstLike l m t l.length = r) := ⟨_, Lib.hid rfl⟩
  rw [HR.out] at hp ⊢
  clear h hs hf
  by_cases h0 : 0 < r
  · go_enter Try.func42, Try.ntmps42
    go_wp2_with (first | (go_at_call 81; refine (l28Book_any l A c _ Hr.out hl hc Hs.out).mono ?_; rintro e w' ⟨rfl, hb1⟩) | (go_at_call 105; refine (l9Good_any _ _ (by omega)).mono ?_; rintro e w' ⟨rfl, rfl⟩) | (go_at_call 106; refine (l28Find_any l A c ⟨0, m, t, 0, ⟨#[]⟩⟩ _ ((Hr.out.below hb1 (Nat.le_refl _)).more hb1.size) hl HT.out H2.out).mono ?_; rintro e w2 ⟨he, hb2⟩; rw [show firstLike l _ _ l.length = _ from HR.out] at he; subst he) | (go_at_call 107; refine (most0_t r _ h0).mono ?_; rintro e w' ⟨rfl, rfl⟩))
    go_ret2
    exact ⟨rfl, hb1.trans (hb2.mono hb1.size)⟩
  · obtain rfl : r = 0 := by omega
    go_enter Try.func42, Try.ntmps42
    go_wp2_with (first | (go_at_call 81; refine (l28Book_any l A c _ Hr.out hl hc Hs.out).mono ?_; rintro e w' ⟨rfl, hb1⟩) | (go_at_call 105; refine (l9Good_any _ _ (by omega)).mono ?_; rintro e w' ⟨rfl, rfl⟩) | (go_at_call 106; refine (l28Find_any l A c ⟨0, m, t, 0, ⟨#[]⟩⟩ _ ((Hr.out.below hb1 (Nat.le_refl _)).more hb1.size) hl HT.out H2.out).mono ?_; rintro e w2 ⟨he, hb2⟩; rw [show firstLike l _ _ l.length = _ from HR.out] at he; subst he) | (go_at_call 107; refine (most0_f 0 _ (Int.le_refl _)).mono ?_; rintro e w' ⟨rfl, rfl⟩))
    go_ret2
    exact ⟨rfl, hb1.trans (hb2.mono hb1.size)⟩
set_option maxHeartbeats 1600000 in
theorem sFind_n (l : List Rcd) (A : Option Addr) (c : Nat) (m t : ByteArray) (w : World) (h : RdL w w.heap.size A 5 Rcd.enc l) (hl : l.length ≤ 1048576) (hc : l.length ≤ c) (hs : ∀ x ∈ l, Record_small 1048576 x) (hsm : m.size ≤ 1048576) (hst : t.size ≤ 1048576) (hf : findP l t) (hp : firstLike l m t l.length < 0) :
    Calls Try.prog 42 #[.slice A l.length c, .string m, .string t] w fun e w' => e = .returned (.tuple #[.int .i64 (0), .bool false]) ∧ Below w.heap.size w w' := by
  have Hr := Lib.hid h
  have Hs := Lib.hid hs
  have HT := Lib.hid (findP_touch hf.1)
  have H2 := Lib.hid hf.2
  have e1 := B_t hf.1
  have e2 := B_t hf.2
  obtain ⟨r, HR⟩ : ∃ r, Hid (firstLike l m t l.length = r) := ⟨_, Lib.hid rfl⟩
  rw [HR.out] at hp
  have hd : decide (0 ≤ r) = false := decide_eq_false (by omega)
  clear h hs hf
  go_enter Try.func42, Try.ntmps42
  go_wp2_with (first | (go_at_call 81; refine (l28Book_any l A c _ Hr.out hl hc Hs.out).mono ?_; rintro e w' ⟨rfl, hb1⟩) | (go_at_call 105; refine (l9Good_any _ _ (by omega)).mono ?_; rintro e w' ⟨rfl, rfl⟩) | (go_at_call 106; refine (l28Find_any l A c ⟨0, m, t, 0, ⟨#[]⟩⟩ _ ((Hr.out.below hb1 (Nat.le_refl _)).more hb1.size) hl HT.out H2.out).mono ?_; rintro e w2 ⟨he, hb2⟩; rw [show firstLike l _ _ l.length = _ from HR.out] at he; subst he) | (go_at_call 107; refine (most0_f r _ (by omega)).mono ?_; rintro e w' ⟨rfl, rfl⟩))
  go_ret2
  exact ⟨rfl, hb1.trans (hb2.mono hb1.size)⟩
theorem sFind_f (l : List Rcd) (A : Option Addr) (c : Nat) (m t : ByteArray) (w : World) (h : RdL w w.heap.size A 5 Rcd.enc l) (hl : l.length ≤ 1048576) (hc : l.length ≤ c) (hs : ∀ x ∈ l, Record_small 1048576 x) (hsm : m.size ≤ 1048576) (hst : t.size ≤ 1048576) (hf : ¬ findP l t) :
    Calls Try.prog 42 #[.slice A l.length c, .string m, .string t] w fun e w' => e = .returned (.tuple #[.int .i64 (0), .bool false]) ∧ Below w.heap.size w w' := by
  have Hr := Lib.hid h
  have Hs := Lib.hid hs
  clear h hs
  by_cases c1 : bookP l
  · have c2 : ¬ touchP t := fun h => hf ⟨c1, h⟩
    have e1 := B_t c1
    have e2 := B_f c2
    clear c1 c2 hf
    go_enter Try.func42, Try.ntmps42
    go_wp2_with (first | (go_at_call 81; refine (l28Book_any l A c _ Hr.out hl hc Hs.out).mono ?_; rintro e w' ⟨rfl, hb1⟩) | (go_at_call 105; refine (l9Good_any _ _ (by omega)).mono ?_; rintro e w' ⟨rfl, rfl⟩))
    go_ret2
    exact ⟨rfl, hb1⟩
  · have e1 := B_f c1
    clear c1 hf
    go_enter Try.func42, Try.ntmps42
    go_wp2_with (first | (go_at_call 81; refine (l28Book_any l A c _ Hr.out hl hc Hs.out).mono ?_; rintro e w' ⟨rfl, hb1⟩) | (go_at_call 105; refine (l9Good_any _ _ (by omega)).mono ?_; rintro e w' ⟨rfl, rfl⟩))
    go_ret2
    exact ⟨rfl, hb1⟩


set_option maxHeartbeats 1600000 in
theorem iFind_t (l : List Rcd) (A : Option Addr) (c : Nat) (m t : ByteArray) (w : World) (h : RdL w w.heap.size A 5 Rcd.enc l) (hl : l.length ≤ 1048576) (hc : l.length ≤ c) (hs : ∀ x ∈ l, Record_small 1048576 x) (hsm : m.size ≤ 1048576) (hst : t.size ≤ 1048576) (hf : findP l t) (hp : 0 ≤ firstLike l m t l.length) :
    Calls Try.prog 43 #[.slice A l.length c, .string m, .string t] w fun e w' => e = .returned (.tuple #[.int .i64 (firstLike l m t l.length), .bool true]) ∧ Below w.heap.size w w' := by
  have Hr := Lib.hid h
  have Hs := Lib.hid hs
  have HT := Lib.hid (findP_touch hf.1)
  have H2 := Lib.hid hf.2
  have e1 := B_t hf.1
  have e2 := B_t hf.2
  obtain ⟨r, HR⟩ : ∃ r, Hid (firstLike l m t l.length = r) := ⟨_, Lib.hid rfl⟩
  rw [HR.out] at hp ⊢
  clear h hs hf
  have hb0 : Hid (Below w.heap.size w ((w.alloc (.cells #[.string m] 9)).alloc (.cells #[.string t] 9))) := Lib.hid (((Below.refl _ _).alloc (Nat.le_refl _) _).alloc (by simp) _)
  have a1 : Hid (((w.alloc (.cells #[.string m] 9)).alloc (.cells #[.string t] 9)).cell? ⟨w.heap.size, 0, none⟩ = some (.string m)) := Lib.hid (by rw [World.cell?_alloc_lt _ _ _ (by simp), World.cell?_alloc_new]; rfl)
  have a2 : Hid (((w.alloc (.cells #[.string m] 9)).alloc (.cells #[.string t] 9)).cell? ⟨w.heap.size + 1, 0, none⟩ = some (.string t)) := Lib.hid (by rw [show w.heap.size + 1 = (w.alloc (.cells #[.string m] 9)).heap.size from by simp, World.cell?_alloc_new]; rfl)
  go_enter Try.func43, Try.ntmps43
  go_wp2_with (first | (go_at_call 25; refine (iBook_any l A c _ ((Hr.out.below hb0.out (Nat.le_refl _)).more hb0.out.size) hl hc Hs.out).mono ?_; rintro e w1 ⟨rfl, hb1⟩; have q1 := (hb1.cell (p := ⟨w.heap.size, 0, none⟩) (by simp <;> omega)).trans a1.out; have q2 := (hb1.cell (p := ⟨w.heap.size + 1, 0, none⟩) (by simp)).trans a2.out; have hb2 := Lib.hid (hb0.out.trans (hb1.mono hb0.out.size)); have hz1 : w.heap.size + 1 < w1.heap.size := Nat.lt_of_lt_of_le (by simp) hb1.size; clear hb1) | (go_at_call 108; refine (touch_any _ _ (by omega)).mono ?_; rintro e w' ⟨rfl, rfl⟩) | (go_at_call 109; refine (findIndex_any l l.length (Nat.le_refl _) A c w.heap.size (w.heap.size + 1) m t _ ((Hr.out.below hb2.out (Nat.le_refl _)).more hb2.out.size) hl q1 q2 (by omega) hz1 HT.out H2.out).mono ?_; rintro e w3 ⟨he, hb3⟩; rw [HR.out] at he; subst he))
  go_ret2
  exact ⟨rfl, hb2.out.trans (hb3.mono hb2.out.size)⟩
set_option maxHeartbeats 1600000 in
theorem iFind_n (l : List Rcd) (A : Option Addr) (c : Nat) (m t : ByteArray) (w : World) (h : RdL w w.heap.size A 5 Rcd.enc l) (hl : l.length ≤ 1048576) (hc : l.length ≤ c) (hs : ∀ x ∈ l, Record_small 1048576 x) (hsm : m.size ≤ 1048576) (hst : t.size ≤ 1048576) (hf : findP l t) (hp : firstLike l m t l.length < 0) :
    Calls Try.prog 43 #[.slice A l.length c, .string m, .string t] w fun e w' => e = .returned (.tuple #[.int .i64 (0), .bool false]) ∧ Below w.heap.size w w' := by
  have Hr := Lib.hid h
  have Hs := Lib.hid hs
  have HT := Lib.hid (findP_touch hf.1)
  have H2 := Lib.hid hf.2
  have e1 := B_t hf.1
  have e2 := B_t hf.2
  obtain ⟨r, HR⟩ : ∃ r, Hid (firstLike l m t l.length = r) := ⟨_, Lib.hid rfl⟩
  rw [HR.out] at hp
  clear h hs hf
  have hb0 : Hid (Below w.heap.size w ((w.alloc (.cells #[.string m] 9)).alloc (.cells #[.string t] 9))) := Lib.hid (((Below.refl _ _).alloc (Nat.le_refl _) _).alloc (by simp) _)
  have a1 : Hid (((w.alloc (.cells #[.string m] 9)).alloc (.cells #[.string t] 9)).cell? ⟨w.heap.size, 0, none⟩ = some (.string m)) := Lib.hid (by rw [World.cell?_alloc_lt _ _ _ (by simp), World.cell?_alloc_new]; rfl)
  have a2 : Hid (((w.alloc (.cells #[.string m] 9)).alloc (.cells #[.string t] 9)).cell? ⟨w.heap.size + 1, 0, none⟩ = some (.string t)) := Lib.hid (by rw [show w.heap.size + 1 = (w.alloc (.cells #[.string m] 9)).heap.size from by simp, World.cell?_alloc_new]; rfl)
  go_enter Try.func43, Try.ntmps43
  go_wp2_with (first | (go_at_call 25; refine (iBook_any l A c _ ((Hr.out.below hb0.out (Nat.le_refl _)).more hb0.out.size) hl hc Hs.out).mono ?_; rintro e w1 ⟨rfl, hb1⟩; have q1 := (hb1.cell (p := ⟨w.heap.size, 0, none⟩) (by simp <;> omega)).trans a1.out; have q2 := (hb1.cell (p := ⟨w.heap.size + 1, 0, none⟩) (by simp)).trans a2.out; have hb2 := Lib.hid (hb0.out.trans (hb1.mono hb0.out.size)); have hz1 : w.heap.size + 1 < w1.heap.size := Nat.lt_of_lt_of_le (by simp) hb1.size; clear hb1) | (go_at_call 108; refine (touch_any _ _ (by omega)).mono ?_; rintro e w' ⟨rfl, rfl⟩) | (go_at_call 109; refine (findIndex_any l l.length (Nat.le_refl _) A c w.heap.size (w.heap.size + 1) m t _ ((Hr.out.below hb2.out (Nat.le_refl _)).more hb2.out.size) hl q1 q2 (by omega) hz1 HT.out H2.out).mono ?_; rintro e w3 ⟨he, hb3⟩; rw [HR.out] at he; subst he))
  go_ret2
  exact ⟨rfl, hb2.out.trans (hb3.mono hb2.out.size)⟩
set_option maxHeartbeats 1600000 in
theorem iFind_f (l : List Rcd) (A : Option Addr) (c : Nat) (m t : ByteArray) (w : World) (h : RdL w w.heap.size A 5 Rcd.enc l) (hl : l.length ≤ 1048576) (hc : l.length ≤ c) (hs : ∀ x ∈ l, Record_small 1048576 x) (hsm : m.size ≤ 1048576) (hst : t.size ≤ 1048576) (hf : ¬ findP l t) :
    Calls Try.prog 43 #[.slice A l.length c, .string m, .string t] w fun e w' => e = .returned (.tuple #[.int .i64 (0), .bool false]) ∧ Below w.heap.size w w' := by
  have Hr := Lib.hid h
  have Hs := Lib.hid hs
  clear h hs
  have hb0 : Hid (Below w.heap.size w ((w.alloc (.cells #[.string m] 9)).alloc (.cells #[.string t] 9))) := Lib.hid (((Below.refl _ _).alloc (Nat.le_refl _) _).alloc (by simp) _)
  have a1 : Hid (((w.alloc (.cells #[.string m] 9)).alloc (.cells #[.string t] 9)).cell? ⟨w.heap.size, 0, none⟩ = some (.string m)) := Lib.hid (by rw [World.cell?_alloc_lt _ _ _ (by simp), World.cell?_alloc_new]; rfl)
  have a2 : Hid (((w.alloc (.cells #[.string m] 9)).alloc (.cells #[.string t] 9)).cell? ⟨w.heap.size + 1, 0, none⟩ = some (.string t)) := Lib.hid (by rw [show w.heap.size + 1 = (w.alloc (.cells #[.string m] 9)).heap.size from by simp, World.cell?_alloc_new]; rfl)
  have HT : True := trivial
  by_cases c1 : bookP l
  · have c2 : ¬ touchP t := fun h => hf ⟨c1, h⟩
    have e1 := B_t c1
    have e2 := B_f c2
    clear c1 c2 hf
    go_enter Try.func43, Try.ntmps43
    go_wp2_with (first | (go_at_call 25; refine (iBook_any l A c _ ((Hr.out.below hb0.out (Nat.le_refl _)).more hb0.out.size) hl hc Hs.out).mono ?_; rintro e w1 ⟨rfl, hb1⟩; have q1 := (hb1.cell (p := ⟨w.heap.size, 0, none⟩) (by simp <;> omega)).trans a1.out; have q2 := (hb1.cell (p := ⟨w.heap.size + 1, 0, none⟩) (by simp)).trans a2.out; have hb2 := Lib.hid (hb0.out.trans (hb1.mono hb0.out.size)); have hz1 : w.heap.size + 1 < w1.heap.size := Nat.lt_of_lt_of_le (by simp) hb1.size; clear hb1) | (go_at_call 108; refine (touch_any _ _ (by omega)).mono ?_; rintro e w' ⟨rfl, rfl⟩) | (go_at_call 109; refine (findIndex_any l l.length (Nat.le_refl _) A c w.heap.size (w.heap.size + 1) m t _ ((Hr.out.below hb2.out (Nat.le_refl _)).more hb2.out.size) hl q1 q2 (by omega) hz1 HT.out H2.out).mono ?_; rintro e w3 ⟨he, hb3⟩; rw [HR.out] at he; subst he))
    go_ret2
    exact ⟨rfl, hb2.out⟩
  · have e1 := B_f c1
    clear c1 hf
    go_enter Try.func43, Try.ntmps43
    go_wp2_with (first | (go_at_call 25; refine (iBook_any l A c _ ((Hr.out.below hb0.out (Nat.le_refl _)).more hb0.out.size) hl hc Hs.out).mono ?_; rintro e w1 ⟨rfl, hb1⟩; have q1 := (hb1.cell (p := ⟨w.heap.size, 0, none⟩) (by simp <;> omega)).trans a1.out; have q2 := (hb1.cell (p := ⟨w.heap.size + 1, 0, none⟩) (by simp)).trans a2.out; have hb2 := Lib.hid (hb0.out.trans (hb1.mono hb0.out.size)); have hz1 : w.heap.size + 1 < w1.heap.size := Nat.lt_of_lt_of_le (by simp) hb1.size; clear hb1) | (go_at_call 108; refine (touch_any _ _ (by omega)).mono ?_; rintro e w' ⟨rfl, rfl⟩) | (go_at_call 109; refine (findIndex_any l l.length (Nat.le_refl _) A c w.heap.size (w.heap.size + 1) m t _ ((Hr.out.below hb2.out (Nat.le_refl _)).more hb2.out.size) hl q1 q2 (by omega) hz1 HT.out H2.out).mono ?_; rintro e w3 ⟨he, hb3⟩; rw [HR.out] at he; subst he))
    go_ret2
    exact ⟨rfl, hb2.out⟩
set_option maxHeartbeats 4000000 in
theorem findLaw (w : World) (l : List Rcd) (Al : Option Addr) (cl : Nat) (hrl : RdL w w.heap.size Al 5 Rcd.enc l) (hll : l.length ≤ 9223372036854775807) (hsl : ∀ x ∈ l, Record_small 9223372036854775807 x) (m : ByteArray) (hszm : m.size ≤ 9223372036854775807) (t : ByteArray) (hszt : t.size ≤ 9223372036854775807) :
    Calls Try.prog 8 #[.slice Al l.length cl, .string m, .string t] w fun e w' => e = .returned (.bool true) ∧ Below w.heap.size w w' := by
  have Hrl := Lib.hid hrl
  have Hsl := Lib.hid hsl
  clear hrl hsl
  by_cases gm : 1048576 < m.size
  · go_enter Try.func8, Try.ntmps8
    go_wp2
    go_ret
    exact ⟨rfl, Below.refl _ _⟩
  by_cases gt : 1048576 < t.size
  · go_enter Try.func8, Try.ntmps8
    go_wp2
    go_ret
    exact ⟨rfl, Below.refl _ _⟩
  have Bw0 := Lib.hid (Below.refl w.heap.size w)
  go_enter Try.func8, Try.ntmps8
  go_wp2_with fail
  refine (szRecordS_any l Al cl (1048576 : Int) _ ((Hrl.out.below Bw0.out (Nat.le_refl _)).more Bw0.out.size) (by omega) (by omega) (by omega) Hsl.out).mono ?_
  rintro e w1 ⟨r1, rfl, hz, hb⟩
  have C1 := Lib.hid hb
  clear hb
  have t1 := C1.out.size
  have Bw1 := Lib.hid (Bw0.out.trans (C1.out.mono Bw0.out.size))
  have Z1 := Lib.hid hz
  clear hz
  by_cases n1 : r1 < 0
  · go_wp2_with fail
    go_ret
    exact ⟨rfl, Bw1.out⟩
  have z1 := Z1.out.resolve_left n1
  have y1 : 0 ≤ r1 ∧ r1 ≤ 1048576 ∧ l.length ≤ 1048576 := ⟨z1.1, by have := z1.2.1; omega, by have := z1.2.2.1; omega⟩
  obtain ⟨y1a, y1b, hll'⟩ := y1
  have Hml : Hid (∀ x ∈ l, Record_small 1048576 x) := Lib.hid (fun x hx => by have := z1.2.2.2 x hx; simp only [Record_small] at this ⊢; omega)
  clear z1
  by_cases h : findP l t
  by_cases hp : 0 ≤ firstLike l m t l.length
  · have H := Lib.hid h
    clear h
    go_wp2_with fail
    refine (toRecordS_any l Al cl _ ((Hrl.out.below Bw1.out (Nat.le_refl _)).more Bw1.out.size) (by omega)).mono ?_
    rintro e w2 ⟨A2, rfl, ho, hb⟩
    have C2 := Lib.hid hb
    clear hb
    have t2 := C2.out.size
    have Bw2 := Lib.hid (Bw1.out.trans (C2.out.mono Bw1.out.size))
    have O_t1_2 := Lib.hid ho
    clear ho
    go_wp2_with fail
    refine (sFind_t l A2 l.length m t _ (O_t1_2.out.rd Rcd_enc_len) (by omega) (Nat.le_refl _) Hml.out (by omega) (by omega) H.out hp).mono ?_
    rintro e w3 ⟨rfl, hb⟩
    have C3 := Lib.hid hb
    clear hb
    have t3 := C3.out.size
    have Bw3 := Lib.hid (Bw2.out.trans (C3.out.mono Bw2.out.size))
    go_wp2_with fail
    refine (toRecordS_any l Al cl _ ((Hrl.out.below Bw3.out (Nat.le_refl _)).more Bw3.out.size) (by omega)).mono ?_
    rintro e w4 ⟨A4, rfl, ho, hb⟩
    have C4 := Lib.hid hb
    clear hb
    have t4 := C4.out.size
    have Bw4 := Lib.hid (Bw3.out.trans (C4.out.mono Bw3.out.size))
    have O_x0_4 := Lib.hid ho
    clear ho
    go_wp2_with fail
    refine (iFind_t l A4 l.length m t _ (O_x0_4.out.rd Rcd_enc_len) (by omega) (Nat.le_refl _) Hml.out (by omega) (by omega) H.out hp).mono ?_
    rintro e w5 ⟨rfl, hb⟩
    have C5 := Lib.hid hb
    clear hb
    have t5 := C5.out.size
    have Bw5 := Lib.hid (Bw4.out.trans (C5.out.mono Bw4.out.size))
    have O_x0_5 := Lib.hid (O_x0_4.out.later C5.out)
    clear O_x0_4
    go_wp2_with fail
    refine (toRecordS_any l Al cl _ ((Hrl.out.below Bw5.out (Nat.le_refl _)).more Bw5.out.size) (by omega)).mono ?_
    rintro e w6 ⟨A6, rfl, ho, hb⟩
    have C6 := Lib.hid hb
    clear hb
    have t6 := C6.out.size
    have Bw6 := Lib.hid (Bw5.out.trans (C6.out.mono Bw5.out.size))
    have O_t5_6 := Lib.hid ho
    clear ho
    have O_x0_6 := Lib.hid (O_x0_5.out.later C6.out)
    clear O_x0_5
    go_wp2_with fail
    refine (eqRecordS_t l A4 A6 l.length l.length _ (O_x0_6.out.rd Rcd_enc_len) (O_t5_6.out.rd Rcd_enc_len) (by omega)).mono ?_
    rintro e w7 ⟨rfl, hb⟩
    have C7 := Lib.hid hb
    clear hb
    have t7 := C7.out.size
    have Bw7 := Lib.hid (Bw6.out.trans (C7.out.mono Bw6.out.size))
    go_wp2_with fail
    go_ret
    exact ⟨rfl, Bw7.out⟩
  · have H := Lib.hid h
    clear h
    go_wp2_with fail
    refine (toRecordS_any l Al cl _ ((Hrl.out.below Bw1.out (Nat.le_refl _)).more Bw1.out.size) (by omega)).mono ?_
    rintro e w2 ⟨A2, rfl, ho, hb⟩
    have C2 := Lib.hid hb
    clear hb
    have t2 := C2.out.size
    have Bw2 := Lib.hid (Bw1.out.trans (C2.out.mono Bw1.out.size))
    have O_t1_2 := Lib.hid ho
    clear ho
    go_wp2_with fail
    refine (sFind_n l A2 l.length m t _ (O_t1_2.out.rd Rcd_enc_len) (by omega) (Nat.le_refl _) Hml.out (by omega) (by omega) H.out (by omega)).mono ?_
    rintro e w3 ⟨rfl, hb⟩
    have C3 := Lib.hid hb
    clear hb
    have t3 := C3.out.size
    have Bw3 := Lib.hid (Bw2.out.trans (C3.out.mono Bw2.out.size))
    go_wp2_with fail
    refine (toRecordS_any l Al cl _ ((Hrl.out.below Bw3.out (Nat.le_refl _)).more Bw3.out.size) (by omega)).mono ?_
    rintro e w4 ⟨A4, rfl, ho, hb⟩
    have C4 := Lib.hid hb
    clear hb
    have t4 := C4.out.size
    have Bw4 := Lib.hid (Bw3.out.trans (C4.out.mono Bw3.out.size))
    have O_x0_4 := Lib.hid ho
    clear ho
    go_wp2_with fail
    refine (iFind_n l A4 l.length m t _ (O_x0_4.out.rd Rcd_enc_len) (by omega) (Nat.le_refl _) Hml.out (by omega) (by omega) H.out (by omega)).mono ?_
    rintro e w5 ⟨rfl, hb⟩
    have C5 := Lib.hid hb
    clear hb
    have t5 := C5.out.size
    have Bw5 := Lib.hid (Bw4.out.trans (C5.out.mono Bw4.out.size))
    have O_x0_5 := Lib.hid (O_x0_4.out.later C5.out)
    clear O_x0_4
    go_wp2_with fail
    refine (toRecordS_any l Al cl _ ((Hrl.out.below Bw5.out (Nat.le_refl _)).more Bw5.out.size) (by omega)).mono ?_
    rintro e w6 ⟨A6, rfl, ho, hb⟩
    have C6 := Lib.hid hb
    clear hb
    have t6 := C6.out.size
    have Bw6 := Lib.hid (Bw5.out.trans (C6.out.mono Bw5.out.size))
    have O_t5_6 := Lib.hid ho
    clear ho
    have O_x0_6 := Lib.hid (O_x0_5.out.later C6.out)
    clear O_x0_5
    go_wp2_with fail
    refine (eqRecordS_t l A4 A6 l.length l.length _ (O_x0_6.out.rd Rcd_enc_len) (O_t5_6.out.rd Rcd_enc_len) (by omega)).mono ?_
    rintro e w7 ⟨rfl, hb⟩
    have C7 := Lib.hid hb
    clear hb
    have t7 := C7.out.size
    have Bw7 := Lib.hid (Bw6.out.trans (C7.out.mono Bw6.out.size))
    go_wp2_with fail
    go_ret
    exact ⟨rfl, Bw7.out⟩
  · have H := Lib.hid h
    clear h
    go_wp2_with fail
    refine (toRecordS_any l Al cl _ ((Hrl.out.below Bw1.out (Nat.le_refl _)).more Bw1.out.size) (by omega)).mono ?_
    rintro e w2 ⟨A2, rfl, ho, hb⟩
    have C2 := Lib.hid hb
    clear hb
    have t2 := C2.out.size
    have Bw2 := Lib.hid (Bw1.out.trans (C2.out.mono Bw1.out.size))
    have O_t1_2 := Lib.hid ho
    clear ho
    go_wp2_with fail
    refine (sFind_f l A2 l.length m t _ (O_t1_2.out.rd Rcd_enc_len) (by omega) (Nat.le_refl _) Hml.out (by omega) (by omega) H.out).mono ?_
    rintro e w3 ⟨rfl, hb⟩
    have C3 := Lib.hid hb
    clear hb
    have t3 := C3.out.size
    have Bw3 := Lib.hid (Bw2.out.trans (C3.out.mono Bw2.out.size))
    go_wp2_with fail
    refine (toRecordS_any l Al cl _ ((Hrl.out.below Bw3.out (Nat.le_refl _)).more Bw3.out.size) (by omega)).mono ?_
    rintro e w4 ⟨A4, rfl, ho, hb⟩
    have C4 := Lib.hid hb
    clear hb
    have t4 := C4.out.size
    have Bw4 := Lib.hid (Bw3.out.trans (C4.out.mono Bw3.out.size))
    have O_x0_4 := Lib.hid ho
    clear ho
    go_wp2_with fail
    refine (iFind_f l A4 l.length m t _ (O_x0_4.out.rd Rcd_enc_len) (by omega) (Nat.le_refl _) Hml.out (by omega) (by omega) H.out).mono ?_
    rintro e w5 ⟨rfl, hb⟩
    have C5 := Lib.hid hb
    clear hb
    have t5 := C5.out.size
    have Bw5 := Lib.hid (Bw4.out.trans (C5.out.mono Bw4.out.size))
    have O_x0_5 := Lib.hid (O_x0_4.out.later C5.out)
    clear O_x0_4
    go_wp2_with fail
    refine (toRecordS_any l Al cl _ ((Hrl.out.below Bw5.out (Nat.le_refl _)).more Bw5.out.size) (by omega)).mono ?_
    rintro e w6 ⟨A6, rfl, ho, hb⟩
    have C6 := Lib.hid hb
    clear hb
    have t6 := C6.out.size
    have Bw6 := Lib.hid (Bw5.out.trans (C6.out.mono Bw5.out.size))
    have O_t5_6 := Lib.hid ho
    clear ho
    have O_x0_6 := Lib.hid (O_x0_5.out.later C6.out)
    clear O_x0_5
    go_wp2_with fail
    refine (eqRecordS_t l A4 A6 l.length l.length _ (O_x0_6.out.rd Rcd_enc_len) (O_t5_6.out.rd Rcd_enc_len) (by omega)).mono ?_
    rintro e w7 ⟨rfl, hb⟩
    have C7 := Lib.hid hb
    clear hb
    have t7 := C7.out.size
    have Bw7 := Lib.hid (Bw6.out.trans (C7.out.mono Bw6.out.size))
    go_wp2_with fail
    go_ret
    exact ⟨rfl, Bw7.out⟩

namespace fnExactFindLike
open Go.ChangeShapes Go.WideShapes Go.ChangeAt Go.RowKit Go.Deep
open Go.ChangeMaps (open_string shut_string)
theorem own : ownKnob Try.prog.godebug = none := by kernel_rfl
theorem laid : laidOutB Try.prog = true := by kernel_rfl
theorem reads : Try.f8.params.toList.all (fun t => Try.prog.readableRec t && decide (t < Try.prog.types.size)) = true := by kernel_rfl
set_option maxRecDepth 100000 in
theorem lifted (os : Os) (started : os.Started) (H : Type) (enc : TypeId × Value → H) :
    ReturnsInHanded {} Try.checked os 8 .any (Rows.fnExactFindLikeSpec.pre6 enc Try.prog Try.f8 Rows.fnExactFindLikeRow.domain false) (Rows.fnExactFindLikeSpec.post enc Try.prog Try.f8 false true false false) := by
  refine returnsInHanded_of_change (C := Try.checked) own started (by kernel_rfl) Try.func8
    (ChangeSpec.witness6 (enc := enc) (C := Try.checked) false ⟨#[], #[.slice none 0 0, .string ByteArray.empty, .string ByteArray.empty], []⟩ 8 (by kernel_rfl) (by kernel_rfl) (by kernel_rfl) (by kernel_rfl)) ?_
  intro W base args ds gs before hval0 hW hcnd _
  have hval : ∀ (j : Nat) t v, Try.f8.params[j]? = some t → args[j]? = some v → Value.okWide Try.prog W .any base t v := hval0
  have hW' := hW
  obtain ⟨p, q, hA0, hV, rfl, hfz, hnd⟩ := hW
  have hA : DataW.TrodAll enc Try.prog W 0 (fun _ => true) true Try.f8.params.toList args.toList ds p := hA0
  rw [Try.params8] at hA hval
  obtain ⟨rfl, rfl⟩ := trodVars_none hV
  have hlt : ∀ x ∈ p, x.block < W.heap.size := fun x hx => by simpa using hW'.lt x (List.mem_append.2 (.inl hx))
  clear hA0 hval0
  obtain ⟨v0, vs0, d0, ds0, p0, q0, hargs, rfl, rfl, h0, r0⟩ := trodAll_cons hA
  obtain ⟨v1, vs1, d1, ds1, p1, q1, rfl, rfl, rfl, h1, r1⟩ := trodAll_cons r0
  obtain ⟨v2, vs2, d2, ds2, p2, q2, rfl, rfl, rfl, h2, r2⟩ := trodAll_cons r1
  obtain ⟨rfl, rfl, rfl⟩ := trodAll_nil r2
  obtain rfl : args = #[v0, v1, v2] := by cases args; simp_all
  clear hargs
  obtain ⟨A0, a0, c0, rfl, y0, x0, z0⟩ := open_list Try.underlying33 5 (by kernel_rfl) (by omega) Rcd.enc _ Record_el (hval 0 33 v0 rfl rfl) h0
  obtain ⟨a1, rfl, rfl, rfl, z1⟩ := open_string Try.underlying9 (hval 1 9 v1 rfl rfl) h1
  obtain ⟨a2, rfl, rfl, rfl, z2⟩ := open_string Try.underlying9 (hval 2 9 v2 rfl rfl) h2
  refine (findLaw W a0 A0 c0 x0 (by unfold maxLen at y0; omega) z0 a1 z1 a2 z2).mono fun e W' ⟨he, hg⟩ => ?_
  subst he
  exact ⟨_, rfl, law_post laid reads rfl Try.underlying4 rfl rfl hW' hg⟩
theorem over : Rows.fnExactFindLikeRow.holds Try.pinned (OpenSpec.ofChange Rows.fnExactFindLikeSpec) :=
  OpenClaim.holds_of_wide 8 Try.f8 rfl rfl rfl rfl rfl rfl rfl ⟨rfl, rfl, rfl, rfl, rfl⟩ rfl rfl rfl rfl rfl (by kernel_rfl) Try.func8 (by kernel_rfl)
    (of_decide_eq_true (by kernel_rfl)) (by unfold Func.isWrapper; first | (rw [if_pos (by decide +kernel)]; kernel_rfl) | (rw [if_neg (by decide +kernel)]; exact ⟨rfl, rfl⟩))
    (fun os started H enc _ => lifted os started H enc)
theorem proved : Rows.FnExactFindLikeSaid := over
end fnExactFindLike
end Go.Proofs.Ytdegbckoejddeaa
