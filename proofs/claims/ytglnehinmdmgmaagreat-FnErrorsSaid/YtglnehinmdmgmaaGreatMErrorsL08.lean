import Derived.Test.YtglnehinmdmgmaaGreatMErrorsL02
import Derived.Test.YtglnehinmdmgmaaGreatMErrorsL05
import Derived.Test.YtglnehinmdmgmaaGreatMErrorsL07
import Derived.Test.YtglnehinmdmgmaaGreatMErrorsL04
/-
  All changes of a stage, as the reference makes them.
-/
namespace Go.Proofs.YtglnehinmdmgmaaGreat
open Go.RowKit
set_option linter.unusedVariables false
set_option linter.unusedSimpArgs false
set_option maxRecDepth 100000

section
variable {P : Program} {ops : Array Oper} {rest : List Oper} {o : Oper} {a : Act} {Q : Exit → Act → World → Prop} {w : World}
/-- 'append(s, x..)' where x is empty: s itself. -/
theorem run_append_none (w : World) (t ty e : TypeId) (i : TypeInfo) (ht : P.underlying t = some (.slice e)) (hi : P.info? e = some i) (g off n cap : Nat) (A : Option Addr) (c : Nat) (hn : n ≤ cap) :
    (Builtin.append_ #[t, t] ty #[.slice (some ⟨g, off, none⟩) n cap, .slice A 0 c]).run P w = .ok (.slice (some ⟨g, off, none⟩) n cap) w := by
  have hst := run_storeCells_cells (P := P) g (off + n * i.size) [] 0 w (by simp) (by simp) (by simp)
  simp only [Nat.add_zero] at hst
  cases A with
  | none => simp [Builtin.append_, run_underlying ht, sizeOf, typeInfo, hi, Builtin.lenOf, hn, Builtin.firstCells, Addr.add_lit, hst, World.setCells]
  | some a =>
    have hfc := run_firstCells_some (P := P) w i.size 0 a 0 c [] (by simp) (by simp)
    simp [Builtin.append_, run_underlying ht, sizeOf, typeInfo, hi, Builtin.lenOf, hn, hfc, Addr.add_lit, hst, World.setCells]
theorem wpList_pushNone (hgd : o.guard = none) (s x : Operand) (t : TypeId) (ho : o.op = .call { callee := .builtin .append, args := #[s, x], argTypes := #[t, t] })
    (e : TypeId) (ht : P.underlying t = some (.slice e)) (hi : (P.info? e).isSome) {g off n cap : Nat} {A : Option Addr} {c : Nat} (hs : a.eval s = .slice (some ⟨g, off, none⟩) n cap) (hx : a.eval x = .slice A 0 c) (hn : n ≤ cap)
    (h : wpList P ops Q rest (a.put o.dst (.slice (some ⟨g, off, none⟩) n cap)) w) : wpList P ops Q (o :: rest) a w := by
  obtain ⟨i, hi⟩ := Option.isSome_iff_exists.1 hi
  refine wpList_plain hgd fun K hK => ?_
  have hr := run_append_none (P := P) w t o.type e i ht hi g off n cap A c hn
  unfold Oper.wp execOp
  simp only [ho, resolve, invoke, builtin, Sem.run_bind, Sem.run_pure, Result.andThen_ok, List.map_toArray, List.map_cons, List.map_nil, hs, hx, hr]
  exact hK _ _ h
end
section
variable {w w' : World} {b : Nat} {v v' : Value} {D : List Sl}
/-- The inner lists read; each lies from b on, apart from v's own block. -/
def Ins (w : World) (b : Nat) (v : Value) (D : List Sl) : Prop := ∀ d ∈ D, RdL w w.heap.size d.A 1 encInt d.x ∧ (d.x = [] ∨ ∃ g off, d.A = some ⟨g, off, none⟩ ∧ b ≤ g ∧ v.ownBlock ≠ some g)
theorem RdL.grown {α : Type} {enc : α → List Value} {size : Nat} {A : Option Addr} {l : List α} {o : Option Nat} (h : RdL w w.heap.size A size enc l) (hg : w.grownBy w' o) (hne : l = [] ∨ ∃ g off, A = some ⟨g, off, none⟩ ∧ o ≠ some g) : RdL w' w'.heap.size A size enc l := by
  rcases h with h | ⟨g, off, hA, hlt, hc⟩
  · exact .inl h
  · rcases hne with h | ⟨g', off', hA', hne⟩
    · exact .inl h
    · rw [hA] at hA'
      simp only [Option.some.injEq, Addr.mk.injEq, and_true] at hA'
      obtain ⟨rfl, rfl⟩ := hA'
      exact .inr ⟨g, off, hA, Nat.lt_of_lt_of_le hlt hg.size, fun i hi j u hu => (World.cell?_of_block (a := ⟨g, off + (i * size + j), none⟩) (hg.block g hlt (fun e => hne e.symm))).trans (hc i hi j u hu)⟩
theorem Ins.nil : Ins w b v [] := fun d hd => by simp at hd
theorem Ins.grown (h : Ins w b v D) (hg : w.grownBy w' v.ownBlock) (hv : v'.ownBlock = v.ownBlock ∨ ∃ m, w.heap.size ≤ m ∧ v'.ownBlock = some m) : Ins w' b v' D := fun d hd => by
  obtain ⟨h1, h2⟩ := h d hd
  refine ⟨h1.grown hg (h2.imp id fun ⟨g, off, hA, _, hne⟩ => ⟨g, off, hA, hne⟩), ?_⟩
  rcases h2 with h2 | ⟨g, off, hA, hb, hne⟩
  · exact .inl h2
  · rcases h1 with h1 | ⟨g', off', hA', hlt, _⟩
    · exact .inl h1
    · rw [hA] at hA'
      simp only [Option.some.injEq, Addr.mk.injEq, and_true] at hA'
      obtain ⟨rfl, rfl⟩ := hA'
      refine .inr ⟨g, off, hA, hb, ?_⟩
      rcases hv with hv | ⟨m, hm, hv⟩
      · rw [hv]; exact hne
      · rw [hv]; intro e; injection e with e; omega
theorem Ins.later (h : Ins w b v D) (hb : Below w.heap.size w w') : Ins w' b v D := fun d hd => ⟨((h d hd).1.below hb (Nat.le_refl _)).more hb.size, (h d hd).2⟩
theorem Ins.snoc (h : Ins w b v D) {d : Sl} (h1 : RdL w w.heap.size d.A 1 encInt d.x) (h2 : d.x = [] ∨ ∃ g off, d.A = some ⟨g, off, none⟩ ∧ b ≤ g ∧ v.ownBlock ≠ some g) : Ins w b v (D ++ [d]) := fun x hx => by
  rcases List.mem_append.1 hx with hx | hx
  · exact h x hx
  · rw [List.mem_singleton.1 hx]; exact ⟨h1, h2⟩
theorem Ins.append (h : Ins w b v D) {D' : List Sl} (h' : Ins w b v D') : Ins w b v (D ++ D') := fun x hx => by
  rcases List.mem_append.1 hx with hx | hx
  · exact h x hx
  · exact h' x hx
end
/-- What l2From gives back. -/
def FromR (L : List (List Int)) (w : World) (e : Ending) (w' : World) : Prop :=
  ∃ (A : Option Addr) (c : Nat) (D : List Sl), e = .returned (.slice A D.length c) ∧ D.map Sl.x = L ∧ RdL w' w'.heap.size A 1 Sl.enc D ∧ (∀ d ∈ D, RdL w' w'.heap.size d.A 1 encInt d.x ∧ (d.x = [] ∨ ∃ g off, d.A = some ⟨g, off, none⟩ ∧ w.heap.size ≤ g)) ∧ Below w.heap.size w w'




set_option maxHeartbeats 3200000 in
theorem l2From_any (n : Nat) (h8 : n ≤ 8) : ∀ (k p : Nat) (w : World), p + k = n + 1 → 1 ≤ p → Calls Tryz.prog 109 #[.int .i64 (n : Int), .int .i64 (p : Int)] w fun e w' => FromR (fromR n k) w e w' := by
  intro k
  induction k using Nat.strongRecOn with
  | _ k ih =>
    intro p w hp hp1
    have hlen := fromR_len n k
    by_cases hk : k = 0
    · subst hk
      have d1 : decide ((n : Int) < (p : Int)) = true := by simp; omega
      go_enter Tryz.func109, Tryz.ntmps109
      go_wp2
      go_ret
      refine ⟨some ⟨w.heap.size, 0, none⟩, 1, [⟨[], none, 0⟩], rfl, rfl, ?_, ?_, (Below.refl _ _).alloc (Nat.le_refl _) _⟩
      · exact .inr ⟨w.heap.size, 0, rfl, by simp, fun i hi j u hu => by
          obtain rfl : i = 0 := by simpa using hi
          have : j = 0 := by have := (List.getElem?_eq_some_iff.1 hu).1; simp [Sl.enc] at this; omega
          subst this
          simp [Sl.enc] at hu; subst hu; rw [World.cell?_alloc_new]; rfl⟩
      · intro d hd; obtain rfl := List.mem_singleton.1 hd; exact ⟨.inl rfl, .inl rfl⟩
    · have d1 : decide ((n : Int) < (p : Int)) = false := by simp; omega
      obtain ⟨m, rfl⟩ : ∃ m, k = m + 1 := ⟨k - 1, by omega⟩
      have hm8 : m + 1 ≤ 8 := by omega
      have h256 : (fromR n m).length ≤ 256 := Nat.le_trans (fromR_len n m) (Nat.pow_le_pow_right (show 0 < 2 by omega) (show _ ≤ 8 by omega))
      have C1 : Hid (∀ W, Calls Tryz.prog 109 #[.int .i64 (n : Int), .int .i64 ((p : Int) + 1)] W fun e w' => FromR (fromR n m) W e w') := Lib.hid fun W => by
        have := ih m (by omega) (p + 1) W (by omega) (by omega)
        rwa [show ((p + 1 : Nat) : Int) = (p : Int) + 1 by omega] at this
      have C2 : Hid (0 < m → ∀ W, Calls Tryz.prog 109 #[.int .i64 (n : Int), .int .i64 ((p : Int) + 2)] W fun e w' => FromR (fromR n (m - 1)) W e w') := Lib.hid fun h W => by
        have := ih (m - 1) (by omega) (p + 2) W (by omega) (by omega)
        rwa [show ((p + 2 : Nat) : Int) = (p : Int) + 2 by omega] at this
      have hS := Lib.hid (fromR_succ n m)
      have HL8 : Hid (∀ r ∈ fromR n m, r.length ≤ 8) := Lib.hid fun r hr => by have := (fromR_in n m (by omega) r hr).1; omega
      have h2 : 0 < m → (fromR n (m - 1)).length ≤ 256 := fun h => Nat.le_trans (fromR_len n (m - 1)) (Nat.pow_le_pow_right (show 0 < 2 by omega) (show _ ≤ 8 by omega))
      have hpos := Lib.hid (fromR_pos n (m - 1))
      have hpos1 := Lib.hid (fromR_pos n m)
      have hpe : (n : Int) - (m : Int) = (p : Int) := by omega
      rw [hpe] at hS
      generalize fromR n (m + 1) = LL at *
      generalize hL1 : fromR n m = L1 at *
      generalize fromR n (m - 1) = L2 at *
      clear ih hL1 hlen hpe
      go_enter Tryz.func109, Tryz.ntmps109
      go_upto_region 5 with (go_at_call 109; refine (C1.out _).mono ?_; rintro e w1 ⟨A1, c1, D1, rfl, hD1, hr1, hi1, hb1⟩; have HR1 := Lib.hid hr1; have HI1 := Lib.hid hi1; have HB1 := Lib.hid hb1; have HD1 := Lib.hid hD1; have hl1 : D1.length ≤ 256 := (by have := congrArg List.length hD1; simp at this; omega); clear hr1 hi1 hb1 hD1)
      have hz1 := HB1.out.size
      have h0 : 0 < D1.length := by have e1 := congrArg List.length HD1.out; have e2 := hpos1.out; rw [List.length_map] at e1; omega
      obtain ⟨g1, off1, hA1, hg1, _⟩ := HR1.out.at h0
      subst hA1
      skip
      go_loopw [5, 17] (fun v i wr => ∃ (j : Nat) (D : List Sl), j ≤ D1.length ∧ i = .int .i64 (j : Int) ∧ D.length = j ∧ Hid (D.map Sl.x = (L1.take j).map (fun r => (p : Int) :: r)) ∧ Grow wr w1.heap.size 24 1 Sl.enc v D ∧ Ins wr w1.heap.size v D ∧ Below w1.heap.size w1 wr) (fun _ i _ => D1.length - (intOf i).toNat)
      case atStart => exact ⟨0, [], by omega, by rfl, rfl, Lib.hid (by simp), Grow.nil, Ins.nil, Below.refl _ _⟩
      case round =>
        obtain ⟨j, D, hj, rfl, hDl, hDm, hg, hi, hbl⟩ := hrel
        have HG := Lib.hid hg
        have HI := Lib.hid hi
        have HB := Lib.hid hbl
        have hzr := hbl.size
        have HDl := Lib.hid hDl
        have hD256 : D.length ≤ 256 := by omega
        clear hg hi hbl hDl
        by_cases hlt : j < D1.length
        · obtain ⟨g', off', hA', _, hcell⟩ := HR1.out.at hlt
          simp only [Option.some.injEq, Addr.mk.injEq, and_true] at hA'
          obtain ⟨rfl, rfl⟩ := hA'
          have hc0 := (HB.out.cell (p := ⟨g1, off1 + (j * 1 + 0), none⟩) hg1).trans (hcell 0 _ rfl)
          rw [Nat.mul_one, Nat.add_zero] at hc0
          have hT : Hid (List.map (fun r => (p : Int) :: r) (L1.take (j + 1)) = List.map (fun r => (p : Int) :: r) (L1.take j) ++ [(p : Int) :: (D1[j]).x]) := Lib.hid (by
            have hl : j < L1.length := by rw [← HD1.out]; simpa using hlt
            have he : L1[j] = (D1[j]).x := by simp only [← HD1.out, List.getElem_map]
            rw [List.take_succ_eq_append_getElem hl, List.map_append, ← he]; rfl)
          have hrd := Lib.hid ((((HI1.out D1[j] (List.getElem_mem hlt)).1).below HB.out (Nat.le_refl _)).more hzr)
          have hdl : (D1[j]).x.length ≤ 8 := by
            have := (HL8.out (D1[j]).x (by rw [← HD1.out]; exact List.mem_map_of_mem (List.getElem_mem hlt)))
            omega
          obtain ⟨d, hd⟩ : ∃ d, Hid (D1[j] = d) := ⟨_, Lib.hid rfl⟩
          rw [hd.out] at hc0 hT hrd hdl
          clear hcell
          have hBa : Hid (Below wr.heap.size wr (wr.alloc (.cells #[.int .i64 (p : Int)] 3))) := Lib.hid ((Below.refl _ _).alloc (Nat.le_refl _) _)
          have hbk : Hid (∀ g, u5.ownBlock = some g → g < wr.heap.size) := Lib.hid HG.out.block_lt
          obtain ⟨x, A, c⟩ := d
          simp only at hc0 hT hrd hdl
          by_cases hx0 : x.length = 0
          · obtain rfl := List.eq_nil_of_length_eq_zero hx0
            simp only [List.length_nil] at hc0
            clear hx0 hdl
            have HbI : Hid (Below wr.heap.size wr (wr.alloc (.cells #[.int .i64 (p : Int)] 3))) := hBa
            have HrI : Hid (RdL (wr.alloc (.cells #[.int .i64 (p : Int)] 3)) (wr.alloc (.cells #[.int .i64 (p : Int)] 3)).heap.size (some ⟨wr.heap.size, 0, none⟩) 1 encInt [(p : Int)]) := Lib.hid (by
              obtain ⟨A, c, e1, e2⟩ := (Grow.lit (w := wr) (b := wr.heap.size) (e := 3) (enc := encInt) [(p : Int)] (news := [.int .i64 (p : Int)]) rfl (Nat.le_refl _) (by simp [maxLen]) encInt_len).own encInt_len
              injection e1 with e1 _ _
              rw [e1]; exact e2.rd encInt_len)
            have HnI : Hid (∃ g off, (some ⟨wr.heap.size, 0, none⟩ : Option Addr) = some ⟨g, off, none⟩ ∧ w1.heap.size ≤ g ∧ u5.ownBlock ≠ some g) := Lib.hid ⟨_, _, rfl, hzr, fun e => Nat.lt_irrefl _ (hbk.out _ e)⟩
            have hzI := HbI.out.size; have HGI := Lib.hid (HG.out.later HbI.out); have HII := Lib.hid ((HI.out.later HbI.out).snoc (d := ⟨(p : Int) :: [], some ⟨wr.heap.size, 0, none⟩, 1⟩) HrI.out (.inr HnI.out))
            go_wp2_with (first | (at_builtin; refine wpList_pushNone rfl (.tmp 23) (.tmp 24) 24 rfl 3 rfl (by kernel_rfl) rfl rfl (Nat.le_refl _) ?_) | (at_builtin; refine wpList_pushA rfl (.tmp 21) (.tmp 26) 116 rfl w1.heap.size 24 _ 1 24 Sl.enc rfl IntS_info rfl (by omega) _ D [⟨(p : Int) :: [], some ⟨wr.heap.size, 0, none⟩, 1⟩] 1 rfl rfl (by simp) HGI.out rfl Sl_enc_len (by simp [Value.oneCell']) (by simp only [List.length_singleton]; omega) (by omega) (by omega) ?_; intro v6 w6 g6 b6 gb6 k6; have HG6 := Lib.hid g6; have HB6 := Lib.hid b6; have HI6 := Lib.hid (HII.out.grown gb6 (k6.imp id fun h => ⟨_, Nat.le_succ _, h⟩)); clear g6 b6 gb6 k6))
            go_roundw
            case rel => exact ⟨j + 1, D ++ [⟨(p : Int) :: [], some ⟨wr.heap.size, 0, none⟩, 1⟩], by omega, by go_num, (by have := HDl.out; simp; omega), Lib.hid (by rw [List.map_append, hDm.out, hT.out]; simp), HG6.out, HI6.out, HB.out.trans ((HbI.out.mono (by omega)).trans (HB6.out))⟩
            case measure => simp [intOf]; omega
          · have hx1 : 0 < x.length := by omega
            clear hx0
            obtain ⟨gx, ox, hAx, _, _⟩ := hrd.out.at hx1
            subst hAx
            have hgl : Hid (Grow (wr.alloc (.cells #[.int .i64 (p : Int)] 3)) wr.heap.size 3 1 encInt (.slice (some ⟨wr.heap.size, 0, none⟩) 1 1) [(p : Int)]) := Lib.hid (Grow.lit [(p : Int)] rfl (Nat.le_refl _) (by simp [maxLen]) encInt_len)
            have hrdA := Lib.hid ((hrd.out.below hBa.out (Nat.le_refl _)).more hBa.out.size)
            go_wp2_with (first
              | (at_builtin; refine wpList_pushAllA rfl (.tmp 23) (.tmp 24) 24 rfl wr.heap.size 3 _ 1 8 encInt rfl Int_info rfl (by omega) _ [(p : Int)] x (some ⟨gx, ox, none⟩) c _ rfl rfl hrdA.out hx1 hgl.out encInt_len (by simp [encInt, Value.oneCell']) (by simp only [List.length_singleton]; omega) (by omega) (by simp) ?_; intro v5 wI g5 b5 gb5 k5; obtain ⟨AI, cI, e5, o5⟩ := g5.own encInt_len; rcases o5 with o5 | ⟨gI, fI, hAI, hI1, hI2, hI3, hI4⟩; (· simp at o5); subst hAI; subst e5; have HbI := Lib.hid ((hBa.out.mono (Nat.le_refl _)).trans b5); have HrI : Hid (RdL wI wI.heap.size (some ⟨gI, 0, none⟩) 1 encInt ((p : Int) :: x)) := Lib.hid ((show OwnL wI wr.heap.size wI.heap.size (some ⟨gI, 0, none⟩) 1 encInt ((p : Int) :: x) from .inr ⟨gI, fI, rfl, hI1, hI2, hI3, hI4⟩).rd encInt_len); have HnI : Hid (∃ g off, (some ⟨gI, 0, none⟩ : Option Addr) = some ⟨g, off, none⟩ ∧ w1.heap.size ≤ g ∧ u5.ownBlock ≠ some g) := Lib.hid ⟨_, _, rfl, Nat.le_trans hzr hI1, fun e => Nat.lt_irrefl _ (Nat.lt_of_lt_of_le (hbk.out _ e) hI1)⟩; clear g5 b5 gb5 k5 hI1 hI2 hI3 hI4; have hzI := HbI.out.size; have HGI := Lib.hid (HG.out.later HbI.out); have HII := Lib.hid ((HI.out.later HbI.out).snoc (d := ⟨(p : Int) :: x, some ⟨gI, 0, none⟩, cI⟩) HrI.out (.inr HnI.out)))
              | (at_builtin; refine wpList_pushA rfl (.tmp 21) (.tmp 26) 116 rfl w1.heap.size 24 _ 1 24 Sl.enc rfl IntS_info rfl (by omega) _ D [⟨(p : Int) :: x, some ⟨gI, 0, none⟩, cI⟩] 1 rfl rfl (by simp) HGI.out rfl Sl_enc_len (by simp [Value.oneCell']) (by simp only [List.length_singleton]; omega) (by omega) (by omega) ?_; intro v6 w6 g6 b6 gb6 k6; have HG6 := Lib.hid g6; have HB6 := Lib.hid b6; have HI6 := Lib.hid (HII.out.grown gb6 (k6.imp id fun h => ⟨_, Nat.le_succ _, h⟩)); clear g6 b6 gb6 k6))
            go_roundw
            case rel => exact ⟨j + 1, D ++ [⟨(p : Int) :: x, some ⟨gI, 0, none⟩, cI⟩], by omega, by go_num, (by have := HDl.out; simp; omega), Lib.hid (by rw [List.map_append, hDm.out, hT.out]; simp), HG6.out, HI6.out, HB.out.trans ((HbI.out.mono (by omega)).trans (HB6.out))⟩
            case measure => simp [intOf]; omega
        · obtain rfl : j = D1.length := by omega
          have hTA : Hid (L1.take D1.length = L1) := Lib.hid (List.take_of_length_le (by rw [← HD1.out]; simp))
          rw [hTA.out] at hDm
          have hzw := HB1.out.size
          by_cases hm0 : 0 < m
          · have d2 : decide ((p : Int) < (n : Int)) = true := by simp; omega
            have hS2 : Hid (LL = L1.map (fun r => (p : Int) :: r) ++ L2) := Lib.hid (by rw [hS.out, if_neg (by omega)])
            have c2' := Lib.hid (C2.out hm0)
            have hl2 := h2 hm0
            have hp2 := hpos.out
            clear hj hlt h2 hpos
            go_wp2_with (first
              | (go_at_call 109; refine (c2'.out _).mono ?_; rintro e w2 ⟨A2, c2, D2, rfl, hD2, hr2, hi2, hb2⟩; have HR2 := Lib.hid hr2; have HI2 : Hid (Ins w2 w1.heap.size u5 D2) := Lib.hid (fun d hd => ⟨(hi2 d hd).1, (hi2 d hd).2.imp id fun ⟨g, off, h1, h2⟩ => ⟨g, off, h1, by omega, fun e => by have := HG.out.block_lt g e; omega⟩⟩); have HB2 := Lib.hid hb2; have HD2 := Lib.hid hD2; have hD2p : 0 < D2.length := (by have e1 := congrArg List.length hD2; rw [List.length_map] at e1; omega); have hD2l : D2.length ≤ 256 := (by have e1 := congrArg List.length hD2; rw [List.length_map] at e1; omega); have HG2 := Lib.hid (HG.out.later hb2); have HI3 := Lib.hid ((HI.out.later hb2).append HI2.out); have hz2 := hb2.size; clear hr2 hi2 hb2 hD2)
              | (at_builtin; refine wpList_pushAllA rfl (.tmp 32) (.tmp 36) 116 rfl w1.heap.size 24 _ 1 24 Sl.enc rfl IntS_info rfl (by omega) _ D D2 A2 c2 _ rfl rfl HR2.out hD2p HG2.out Sl_enc_len (by simp [Sl.enc, Value.oneCell']) (by omega) (by omega) (by omega) ?_; intro v5 w5 g5 b5 gb5 k5; have HG5 := Lib.hid g5; have HB5 := Lib.hid b5; have HI5 := Lib.hid (HI3.out.grown gb5 (k5.imp id fun h => ⟨_, Nat.le_refl _, h⟩)); clear g5 b5 gb5 k5))
            obtain ⟨A, c, rfl, ho⟩ := HG5.out.own Sl_enc_len
            go_ret
            exact ⟨A, c, D ++ D2, rfl, by rw [List.map_append, hDm.out, HD2.out, hS2.out], ho.rd Sl_enc_len, fun d hd => ⟨(HI5.out d hd).1, (HI5.out d hd).2.imp id fun ⟨g, off, h1, h2, _⟩ => ⟨g, off, h1, by omega⟩⟩, HB1.out.trans ((HB.out.trans ((HB2.out.mono hzr).trans HB5.out)).mono hzw)⟩
          · have d2 : decide ((p : Int) < (n : Int)) = false := by simp; omega
            have hS2 : Hid (LL = L1.map (fun r => (p : Int) :: r)) := Lib.hid (by rw [hS.out, if_pos (by omega), List.append_nil])
            clear hj hlt h2 hpos C2
            obtain ⟨A, c, rfl, ho⟩ := HG.out.own Sl_enc_len
            have Ho := Lib.hid ho
            clear ho
            go_wp2
            go_ret
            exact ⟨A, c, D, rfl, by rw [hDm.out, hS2.out], Ho.out.rd Sl_enc_len, fun d hd => ⟨(HI.out d hd).1, (HI.out d hd).2.imp id fun ⟨g, off, h1, h2, _⟩ => ⟨g, off, h1, by omega⟩⟩, HB1.out.trans (HB.out.mono hzw)⟩
end Go.Proofs.YtglnehinmdmgmaaGreat
