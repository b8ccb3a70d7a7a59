import Derived.Test.YtglnehinmdmgmaaGreatMErrorsL32
import Derived.Test.YtglnehinmdmgmaaGreatMErrorsL04
import Derived.Test.YtglnehinmdmgmaaGreatMErrorsL03
import Derived.Laws.OwnMore
import Derived.Deep.QuietTactic
/-
  A blow put into a sorted list of blows: the reference's l23Put.
-/
namespace Go.Proofs.YtglnehinmdmgmaaGreat
open Go.RowKit
set_option linter.unusedVariables false
set_option linter.unusedSimpArgs false
set_option maxRecDepth 100000

/-- The list while room is made: what stands at place k is told twice. -/
def memB (l : List Blw) (b : Blw) (k : Nat) : List Blw := l.take k ++ l.getD k b :: l.drop k
theorem memB_end (l : List Blw) (b : Blw) : memB l b l.length = l ++ [b] := by
  unfold memB; simp
theorem memB_len {l : List Blw} {b : Blw} {k : Nat} (h : k ≤ l.length) : (memB l b k).length = l.length + 1 := by
  unfold memB; simp; omega
theorem memB_at {l : List Blw} {b : Blw} {j : Nat} (h : j < l.length) (hj : j < (memB l b (j + 1)).length) : (memB l b (j + 1))[j] = l[j] := by
  rw [← Option.some.injEq, ← List.getElem?_eq_getElem hj]
  unfold memB
  rw [List.getElem?_append_left (by simp; omega), List.getElem?_take_of_lt (by omega), List.getElem?_eq_getElem h]
theorem memB_step {l : List Blw} {b : Blw} {j : Nat} (h : j < l.length) : (memB l b (j + 1)).set (j + 1) l[j] = memB l b j := by
  have h1 : (l.take (j + 1)).length = j + 1 := by simp; omega
  have h2 : l.getD j b = l[j] := by rw [List.getD_eq_getElem?_getD, List.getElem?_eq_getElem h]; rfl
  unfold memB
  rw [List.set_append_right _ _ (by omega), h1, Nat.sub_self, List.set_cons_zero, h2, List.take_succ_eq_append_getElem h, List.append_assoc, List.drop_eq_getElem_cons h]
  rfl
theorem memB_put {l : List Blw} {b : Blw} {k : Nat} (h : posB l b l.length = k) (hk : k ≤ l.length) : (memB l b k).set k b = putB l b := by
  have h1 : (l.take k).length = k := by simp; omega
  unfold memB putB
  rw [h, List.set_append_right _ _ (by omega), h1, Nat.sub_self, List.set_cons_zero]
theorem len3 : ∀ l : List Value, l.length = 3 → ∃ p q r, l = [p, q, r]
  | [p, q, r], _ => ⟨p, q, r, rfl⟩
section
variable {α : Type} {enc : α → List Value}
theorem flat_set3 (henc : ∀ x, (enc x).length = 3) {x : α} {a b c : Value} (hx : enc x = [a, b, c]) : ∀ (l : List α) (k : Nat), k < l.length → flat enc (l.set k x) = (((flat enc l).set (k * 3) a).set (k * 3 + 1) b).set (k * 3 + 2) c
  | [], k, h => by simp at h
  | y :: l, 0, _ => by
    obtain ⟨p, q, r, hv⟩ : ∃ p q r, enc y = [p, q, r] := len3 _ (henc y)
    simp [flat, hx, hv]
  | y :: l, k + 1, h => by
    obtain ⟨p, q, r, hv⟩ : ∃ p q r, enc y = [p, q, r] := len3 _ (henc y)
    have ih := flat_set3 henc hx l k (by simpa using h)
    simp only [List.set_cons_succ, flat, hv, ih, List.cons_append, List.nil_append, show (k + 1) * 3 = k * 3 + 1 + 1 + 1 by omega, show k * 3 + 1 + 1 + 1 + 1 = k * 3 + 1 + 1 + 1 + 1 from rfl, show k * 3 + 1 + 1 + 1 + 2 = k * 3 + 2 + 1 + 1 + 1 by omega]
theorem grown_trans {w w1 w2 : World} {o o' : Option Nat} (h : w.grownBy w1 o) (k : w1.grownBy w2 o') (ho : ∀ q, o' = some q → o = some q ∨ w.heap.size ≤ q) : w.grownBy w2 o :=
  ⟨k.os.trans h.os, k.tape.trans h.tape, k.output.trans h.output, Nat.le_trans h.size k.size, fun q hq hne => (k.block q (Nat.lt_of_lt_of_le hq h.size) (fun e => by
    rcases ho q e.symm with h1 | h1
    · exact hne h1.symm
    · omega)).trans (h.block q hq hne)⟩
theorem grown_drewN {w w1 : World} {o : Option Nat} (h : w.grownBy w1 o) (n : Nat) : w.grownBy (w1.drewN n) o := ⟨h.os, h.tape, h.output, h.size, h.block⟩
/-- An element of three cells stored into a slice of the call's own. -/
theorem grow_stored3 {w : World} {base g n cap : Nat} {e : TypeId} {l : List α} (h : Grow w base e 3 enc (.slice (some ⟨g, 0, none⟩) n cap) l) (hn : n = l.length) (henc : ∀ x, (enc x).length = 3) {x : α} {a b c : Value} (hx : enc x = [a, b, c]) {k : Nat} (hk : k < l.length) :
    Grow (((w.setCell ⟨g, k * 3, none⟩ a).setCell ⟨g, k * 3 + 1, none⟩ b).setCell ⟨g, k * 3 + 2, none⟩ c) base e 3 enc (.slice (some ⟨g, 0, none⟩) n cap) (l.set k x) ∧ w.grownBy (((w.setCell ⟨g, k * 3, none⟩ a).setCell ⟨g, k * 3 + 1, none⟩ b).setCell ⟨g, k * 3 + 2, none⟩ c) (some g) := by
  subst hn
  unfold Grow at h ⊢
  rw [List.length_set, flat_set3 henc hx l k hk]
  have h1 := h.stored (k * 3) a
  have h2 := h1.1.stored (k * 3 + 1) b
  have h3 := h2.1.stored (k * 3 + 2) c
  exact ⟨h3.1, grown_trans (grown_trans h1.2 h2.2 (fun q hq => .inl hq)) h3.2 (fun q hq => .inl hq)⟩
theorem grow_some3 {w : World} {base : Nat} {e : TypeId} {size : Nat} {v : Value} {l : List α} (h : Grow w base e size enc v l) (hl : 0 < l.length) : ∃ g cap, v = .slice (some ⟨g, 0, none⟩) l.length cap ∧ base ≤ g ∧ g < w.heap.size ∧ l.length ≤ cap := by
  rcases h.2 with ⟨_, h2⟩ | ⟨g, cap, cur, h1, h2, h3, h4, _⟩
  · omega
  · exact ⟨g, cap, h1, h2, h.block_lt g (by rw [h1]; rfl), h4⟩
end
/-- A blow of a slice of the call's own: its cells. -/
theorem grow_at3 {w : World} {base g n cap : Nat} {e : TypeId} {l : List Blw} (h : Grow w base e 3 Blw.enc (.slice (some ⟨g, 0, none⟩) n cap) l) {k : Nat} (hk : k < l.length) :
    w.cell? ⟨g, k * 3, none⟩ = some (.int .i64 l[k].row) ∧ w.cell? ⟨g, k * 3 + 1, none⟩ = some (.int .i64 l[k].place) ∧ w.cell? ⟨g, k * 3 + 2, none⟩ = some (.int .i64 l[k].at_) ∧ w.frozen? ⟨g, k * 3, none⟩ = false ∧ w.frozen? ⟨g, k * 3 + 1, none⟩ = false ∧ w.frozen? ⟨g, k * 3 + 2, none⟩ = false := by
  obtain ⟨A, c, hv, ho⟩ := h.own Blw_enc_len
  injection hv with hv _ _
  subst hv
  have h0 := ho.get Blw_enc_len k hk 0 (by omega)
  have h1 := ho.get Blw_enc_len k hk 1 (by omega)
  have h2 := ho.get Blw_enc_len k hk 2 (by omega)
  exact ⟨h0.1, h1.1, h2.1, h0.2, h1.2, h2.2⟩



set_option maxHeartbeats 3200000 in
theorem l23Put_any (l : List Blw) (b : Blw) (v : Value) (base : Nat) (w : World) (hG : Grow w base 43 3 Blw.enc v l) (hb : base ≤ w.heap.size) (hl : l.length ≤ 1000000) :
    Calls Tryz.prog 43 #[v, .agg #[.int .i64 b.row, .int .i64 b.place, .int .i64 b.at_]] w fun e w' => ∃ v', e = .returned v' ∧ Grow w' base 43 3 Blw.enc v' (putB l b) ∧ Below base w w' ∧ w.grownBy w' v.ownBlock ∧ (∀ g, v'.ownBlock = some g → v.ownBlock = some g ∨ w.heap.size ≤ g) := by
  obtain ⟨V, hV, hVs, HBV, HCV, HGV⟩ : ∃ V, Hid (w.alloc (.cells #[.int .i64 b.row, .int .i64 b.place, .int .i64 b.at_] 43) = V) ∧ w.heap.size + 1 = V.heap.size ∧ Hid (Below w.heap.size w V) ∧ Hid (Cells V w.heap.size 3 (fun i => (#[Value.int .i64 b.row, .int .i64 b.place, .int .i64 b.at_] : Array Value).getD i undef)) ∧ Hid (Grow V base 43 3 Blw.enc v l) := ⟨_, Lib.hid rfl, by simp, Lib.hid ((Below.refl _ _).alloc (Nat.le_refl _) _), Lib.hid (box3_new w _ _ _ _), Lib.hid (hG.alloc _)⟩
  obtain ⟨A, c, rfl, _⟩ := hG.own Blw_enc_len
  have HGw := Lib.hid hG
  clear hG
  obtain ⟨bx, hbx⟩ : ∃ b, Hid (w.heap.size = b) := ⟨_, Lib.hid rfl⟩
  have c0 : V.cell? ⟨bx, 0, none⟩ = some (.int .i64 b.row) := by rw [← hbx.out]; exact HCV.out.cell (i := 0) (by omega)
  have c1 : V.cell? ⟨bx, 1, none⟩ = some (.int .i64 b.place) := by rw [← hbx.out]; exact HCV.out.cell (i := 1) (by omega)
  have c2 : V.cell? ⟨bx, 2, none⟩ = some (.int .i64 b.at_) := by rw [← hbx.out]; exact HCV.out.cell (i := 2) (by omega)
  go_enter Tryz.func43, Tryz.ntmps43
  go_upto_region 1 with fail
  rw [hV.out, hbx.out]
  go_upto_region 3 with (first | (at_builtin; refine wpList_pushA rfl (.tmp 8) (.tmp 10) 26 rfl base 43 _ 3 24 Blw.enc rfl Blow_info rfl (by omega) (.slice A l.length c) l [b] 1 rfl rfl (by simp) HGV.out rfl Blw_enc_len (by simp [Value.oneCell']) (by simp only [List.length_singleton]; omega) (by omega) (by omega) ?_; intro v8 w8 g8 b8 gb8 k8; have HG8 := Lib.hid g8; have HB8 := Lib.hid b8; have HGb8 := Lib.hid gb8; have HK8 := Lib.hid k8; obtain ⟨g, cap, hv8, hbg, hgw, hcap⟩ := grow_some3 g8 (by simp); rw [List.length_append, List.length_singleton] at hv8 hcap; subst hv8; clear g8 b8 gb8 k8) | fail)
  clear c0 c1 c2
  have hgown : Hid (∀ q, (Value.slice (some ⟨g, 0, none⟩) (l.length + 1) cap).ownBlock = some q → (Value.slice A l.length c).ownBlock = some q ∨ w.heap.size ≤ q) := Lib.hid (fun q hq => by
    rcases HK8.out with e | e
    · exact .inl (by rw [← e]; exact hq)
    · rw [e] at hq; injection hq with hq; exact .inr (by omega))
  have hgx : g ≠ bx := fun e => by
    rcases HK8.out with e2 | e2
    · have h1 := HGw.out.block_lt g (by rw [← e2]; rfl)
      have := hbx.out; omega
    · have : some g = some (V.heap.size + 1) := e2
      injection this with this
      have := hbx.out; omega
  have HG0 : Hid (Grow w8 base 43 3 Blw.enc (.slice (some ⟨g, 0, none⟩) (l.length + 1) cap) (memB l b l.length)) := Lib.hid (by rw [memB_end]; exact HG8.out)
  have HGr0 : Hid (w.grownBy w8 (Value.slice A l.length c).ownBlock) := Lib.hid (grown_trans (o' := (Value.slice A l.length c).ownBlock) (by rw [← hV.out]; exact World.grownBy_alloc _ _ _) HGb8.out (fun q hq => .inl hq))
  have HB0 : Hid (Below base w w8) := Lib.hid ((HBV.out.mono hb).trans HB8.out)
  have HC0 : Hid (Cells w8 bx 3 (fun i => (#[Value.int .i64 b.row, .int .i64 b.place, .int .i64 b.at_] : Array Value).getD i undef)) := Lib.hid (by
    have h1 := HCV.out
    rw [hbx.out] at h1
    refine ⟨Nat.lt_of_lt_of_le h1.lt HGb8.out.size, fun i hi => ?_⟩
    have hk : w8.heap[bx]? = V.heap[bx]? := HGb8.out.block bx h1.lt (fun e => by
      have := HGw.out.block_lt bx e.symm
      have := hbx.out; omega)
    exact ⟨(World.cell?_of_block (a := ⟨bx, i, none⟩) hk).trans (h1.cell hi), (World.frozen?_of_block (a := ⟨bx, i, none⟩) hk).trans (h1.free hi)⟩)
  clear HG8 HB8 HGb8 HCV HGV HBV
  go_loopw [5] (fun kv wr => ∃ k : Nat, k ≤ l.length ∧ kv = .int .i64 (k : Int) ∧ Hid (Grow wr base 43 3 Blw.enc (.slice (some ⟨g, 0, none⟩) (l.length + 1) cap) (memB l b k)) ∧ Hid (posB l b l.length = posB l b k) ∧ Hid (Cells wr bx 3 (fun i => (#[Value.int .i64 b.row, .int .i64 b.place, .int .i64 b.at_] : Array Value).getD i undef)) ∧ Hid (Below base w wr) ∧ Hid (w.grownBy wr (Value.slice A l.length c).ownBlock)) (fun kv _ => (intOf kv).toNat)
  case atStart => exact ⟨l.length, Nat.le_refl _, rfl, HG0, Lib.hid rfl, HC0, HB0, HGr0⟩
  case round =>
    obtain ⟨k, hk, rfl, HG, HP, HC, HB, HGr⟩ := hrel
    clear HG0 HGr0 HB0 HC0
    have c0 : wr.cell? ⟨bx, 0, none⟩ = some (.int .i64 b.row) := HC.out.cell (i := 0) (by omega)
    have c1 : wr.cell? ⟨bx, 1, none⟩ = some (.int .i64 b.place) := HC.out.cell (i := 1) (by omega)
    have c2 : wr.cell? ⟨bx, 2, none⟩ = some (.int .i64 b.at_) := HC.out.cell (i := 2) (by omega)
    cases k with
    | zero =>
      rw [show ((0 : Nat) : Int) = 0 from rfl]
      go_upto_region 3 with fail
      go_quiet (fail)
      have d0 : (wr.drewN nq).cell? ⟨bx, 0, none⟩ = some (.int .i64 b.row) := c0
      have d1 : (wr.drewN nq).cell? ⟨bx, 1, none⟩ = some (.int .i64 b.place) := c1
      have d2 : (wr.drewN nq).cell? ⟨bx, 2, none⟩ = some (.int .i64 b.at_) := c2
      clear c0 c1 c2
      have hmp := memB_put (l := l) (b := b) (k := 0) (by rw [HP.out]; rfl) (by omega)
      have HMp := Lib.hid hmp
      obtain ⟨y0, y1, y2, z0, z1, z2⟩ := grow_at3 HG.out (k := 0) (by rw [memB_len (by omega)]; omega)
      have hsto := Lib.hid (grow_stored3 (w := wr.drewN nq) HG.out (memB_len (by omega)).symm Blw_enc_len (x := b) rfl (k := 0) (by rw [memB_len (by omega)]; omega))
      clear hmp
      go_wp2
      go_ret
      refine ⟨_, rfl, by have := hsto.out.1; rw [HMp.out] at this; exact this, ?_, ?_, hgown.out⟩
      · refine Below.setCell ?_ hbg _
        refine Below.setCell ?_ hbg _
        refine Below.setCell ?_ hbg _
        exact below_drewN HB.out nq
      · exact grown_trans (grown_drewN HGr.out nq) hsto.out.2 (fun q hq => by injection hq with hq; subst hq; exact hgown.out g rfl)
    | succ j =>
      rw [show ((j + 1 : Nat) : Int) = (j : Int) + 1 by omega]
      have hjl : j < l.length := by omega
      have hgd : l.getD j b = l[j] := by rw [List.getD_eq_getElem?_getD, List.getElem?_eq_getElem hjl]; rfl
      have hpos : posB l b (j + 1) = if gtB l[j] b then posB l b j else j + 1 := by simp only [posB]; rw [hgd]
      have hstep := memB_step (b := b) hjl
      have hml := memB_len (b := b) hk
      obtain ⟨e0, e1, e2, _, _, _⟩ := grow_at3 HG.out (k := j) (by omega)
      rw [memB_at hjl] at e0 e1 e2
      obtain ⟨x, hx⟩ : ∃ x, Hid (l[j] = x) := ⟨_, Lib.hid rfl⟩
      rw [hx.out] at e0 e1 e2 hpos hstep
      have hwj : IntKind.i64.wrap (j : Int) = (j : Int) := IntWalk.i64_in _ (by omega)
      have hwk : IntKind.i64.wrap ((j : Int) + 1 - 1) = (j : Int) := by rw [IntWalk.i64_in _ (by omega)]; omega
      have tj : ((j : Int) + 1).toNat = j + 1 := by omega
      have d9 : decide ((0 : Int) < (j : Int) + 1) = true := decide_eq_true (by omega)
      have Hstep := Lib.hid hstep
      have Hpos := Lib.hid hpos
      clear hgd hstep hpos hml
      by_cases hgt : gtB x b
      · have hP2 : Hid (posB l b l.length = posB l b j) := Lib.hid (by rw [HP.out, Hpos.out, if_pos hgt])
        have hcase : b.row < x.row ∨ (¬ b.row < x.row ∧ (x.row == b.row) = true ∧ b.place < x.place) := by
          rcases hgt with h | ⟨h1, h2⟩
          · exact .inl h
          · exact .inr ⟨by omega, beq_iff_eq.2 h1, h2⟩
        clear hgt
        rcases hcase with h1 | ⟨h1, h2, h3⟩
        all_goals
          go_upto_region 3 with fail
          go_quiet (fail)
          have d0 : (wr.drewN nq).cell? ⟨g, j * 3, none⟩ = some (.int .i64 x.row) := e0
          have d1 : (wr.drewN nq).cell? ⟨g, j * 3 + 1, none⟩ = some (.int .i64 x.place) := e1
          have d2 : (wr.drewN nq).cell? ⟨g, j * 3 + 2, none⟩ = some (.int .i64 x.at_) := e2
          obtain ⟨y0, y1, y2, z0, z1, z2⟩ := grow_at3 (w := wr.drewN nq) HG.out (k := j + 1) (by rw [memB_len hk]; omega)
          have hsto := Lib.hid (grow_stored3 (w := wr.drewN nq) HG.out (memB_len hk).symm Blw_enc_len (x := x) rfl (k := j + 1) (by rw [memB_len hk]; omega))
          have hjl1 : j + 1 < l.length + 1 := by omega
          have hjl2 : (j : Int) + 1 < (l.length : Int) + 1 := by omega
          have hjl3 : (j : Int) < (l.length : Int) + 1 := by omega
          clear c0 c1 c2 e0 e1 e2
          go_wp2
          go_roundw
          case rel => exact ⟨j, by omega, rfl, Lib.hid (by have := hsto.out.1; rw [Hstep.out] at this; exact this), hP2, Lib.hid (((HC.out.drewN nq).other (by exact hgx) _).other (by exact hgx) _ |>.other (by exact hgx) _), Lib.hid ((((below_drewN HB.out nq).setCell (p := ⟨g, (j + 1) * 3, none⟩) hbg _).setCell (p := ⟨g, (j + 1) * 3 + 1, none⟩) hbg _).setCell (p := ⟨g, (j + 1) * 3 + 2, none⟩) hbg _), Lib.hid (grown_trans (grown_drewN HGr.out nq) hsto.out.2 (fun q hq => by injection hq with hq; subst hq; exact hgown.out g rfl))⟩
          case measure => first | (simp [intOf]; done) | (simp [intOf]; omega)
      · have hP2 : Hid (posB l b l.length = j + 1) := Lib.hid (by rw [HP.out, Hpos.out, if_neg hgt])
        have hcase : (¬ b.row < x.row ∧ (x.row == b.row) = false) ∨ (¬ b.row < x.row ∧ (x.row == b.row) = true ∧ ¬ b.place < x.place) := by
          unfold gtB at hgt
          by_cases h1 : x.row = b.row
          · exact .inr ⟨by omega, beq_iff_eq.2 h1, by omega⟩
          · exact .inl ⟨by omega, beq_eq_false_iff_ne.2 h1⟩
        clear hgt
        rcases hcase with ⟨h1, h2⟩ | ⟨h1, h2, h3⟩
        all_goals
          go_upto_region 3 with fail
          go_quiet (fail)
          have d0 : (wr.drewN nq).cell? ⟨bx, 0, none⟩ = some (.int .i64 b.row) := c0
          have d1 : (wr.drewN nq).cell? ⟨bx, 1, none⟩ = some (.int .i64 b.place) := c1
          have d2 : (wr.drewN nq).cell? ⟨bx, 2, none⟩ = some (.int .i64 b.at_) := c2
          have hjl1 : j + 1 < l.length + 1 := by omega
          have hjl2 : (j : Int) + 1 < (l.length : Int) + 1 := by omega
          clear c0 c1 c2 e0 e1 e2
          have hmp := memB_put (l := l) (b := b) (k := j + 1) hP2.out (by omega)
          have HMp := Lib.hid hmp
          obtain ⟨y0, y1, y2, z0, z1, z2⟩ := grow_at3 HG.out (k := j + 1) (by rw [memB_len (by omega)]; omega)
          have hsto := Lib.hid (grow_stored3 (w := wr.drewN nq) HG.out (memB_len (by omega)).symm Blw_enc_len (x := b) rfl (k := j + 1) (by rw [memB_len (by omega)]; omega))
          clear hmp
          go_wp2
          go_ret
          refine ⟨_, rfl, by have := hsto.out.1; rw [HMp.out] at this; exact this, ?_, ?_, hgown.out⟩
          · refine Below.setCell ?_ hbg _
            refine Below.setCell ?_ hbg _
            refine Below.setCell ?_ hbg _
            exact below_drewN HB.out nq
          · exact grown_trans (grown_drewN HGr.out nq) hsto.out.2 (fun q hq => by injection hq with hq; subst hq; exact hgown.out g rfl)
end Go.Proofs.YtglnehinmdmgmaaGreat
