/-
  The cycles of a row, as the reference makes them.
-/
import Derived.Test.YtdecjijldcbnjaaCycRun
import Derived.Test.YtdecjijldcbnjaaCurInts
import Derived.Test.YtdecjijldcbnjaaIntsL
import Derived.Test.YtdecjijldcbnjaaL1b
import Derived.Test.YtdecjijldcbnjaaL1c
import Derived.Test.YtdecjijldcbnjaaClone
import Derived.Test.YtdecjijldcbnjaaQuiet
namespace Go.Proofs.Ytdecjijldcbnjaa
open Go.RowKit
open CycT (Cy Part Run)
set_option linter.unusedVariables false
set_option linter.unusedSimpArgs false
set_option maxRecDepth 100000

section
variable {P : Program} {ops : Array Oper} {rest : List Oper} {o : Oper} {a : Act} {Q : Exit → Act → World → Prop} {w : World}
/-- wpList_pushAll; the new slice's block is the old one's, or new. -/
theorem wpList_pushAllA {α : Type} (hgd : o.guard = none) (s x : Operand) (t : TypeId) (ho : o.op = .call { callee := .builtin .append, args := #[s, x], argTypes := #[t, t] })
    (base : Nat) (e : TypeId) (z : Value) (size bytes : Nat) (enc : α → List Value)
    (ht : P.underlying t = some (.slice e)) (hinfo : (P.info? e).map (fun i => (i.zero, i.size, i.bytes)) = some (some z, size, bytes)) (hzs : z.cells.size = size) (hsz : 0 < size)
    (v : Value) (l ys : List α) (A : Option Addr) (c b : Nat) (hs : a.eval s = v) (hx : a.eval x = .slice A ys.length c) (hr : RdL w b A size enc ys) (hne : 0 < ys.length)
    (hown : Grow w base e size enc v l) (henc : ∀ x, (enc x).length = size) (h1 : ∀ x, ∀ u ∈ enc x, u.oneCell' = true)
    (hn : l.length + ys.length ≤ 1000000000) (hb : bytes ≤ 1000) (hbase : base ≤ w.heap.size)
    (h : ∀ v' w', Grow w' base e size enc v' (l ++ ys) → Below base w w' → w.grownBy w' v.ownBlock → (v'.ownBlock = v.ownBlock ∨ v'.ownBlock = some w.heap.size) → wpList P ops Q rest (a.put o.dst v') w') :
    wpList P ops Q (o :: rest) a w := by
  obtain ⟨i, hi, hzz⟩ := Option.map_eq_some_iff.1 hinfo
  simp only [Prod.mk.injEq] at hzz
  obtain ⟨hz, hs', hb'⟩ := hzz
  have hmul : (l.length + ys.length) * bytes ≤ 1000000000 * 1000 := Nat.mul_le_mul hn hb
  obtain ⟨g, off, hA, _, _⟩ := hr.at (k := 0) hne
  subst hA
  refine wpList_append_own_at (P := P) _ hgd s x t ho base e i z size bytes ht hi hz hs' hb' hzs hsz v l.length (flat enc l) hs hown ⟨g, off, none⟩ ys.length c (flat enc ys) hx (flat_len henc ys)
    (fun j u hu => by
      obtain ⟨i, hi, k, rfl, hk⟩ := flat_inv henc ys j u hu
      obtain ⟨g', off', hA', _, hcell⟩ := hr.at hi
      simp only [Option.some.injEq, Addr.mk.injEq, and_true] at hA'
      obtain ⟨rfl, rfl⟩ := hA'
      have e : (⟨g, off, none⟩ : Addr).add (i * size + k) = ⟨g, off + (i * size + k), none⟩ := by unfold Addr.add; split <;> simp_all
      rw [e]; exact hcell k u hk) (fun u hu => by
      obtain ⟨j, hj⟩ := List.getElem?_of_mem hu
      obtain ⟨i, hi, k, _, hk⟩ := flat_inv henc ys j u hj
      exact h1 _ u (List.mem_of_getElem? hk)) (by unfold maxLen; omega) (by omega) hbase ?_
  intro v' w' hown' hg _ hblk
  have hr : ∀ k, v.ownBlock = some k → base ≤ k := fun k hk => by
    rcases hown.2 with ⟨rfl, _⟩ | ⟨g, cap, cur, rfl, hbg, _⟩
    · simp [Value.ownBlock] at hk
    · simp [Value.ownBlock] at hk; omega
  refine h v' w' ?_ ?_ hg hblk
  · unfold Grow
    rw [List.length_append, flat_append]
    exact hown'
  · exact (Below.refl base w).grown hg hbase hr
end
theorem Apart.growL {a b a' : Value} {m : Nat} (h : Apart a b) (hb : ∀ g, b.ownBlock = some g → g < m) (ha : a'.ownBlock = a.ownBlock ∨ a'.ownBlock = some m) : Apart a' b := by
  intro g hg e
  rcases ha with ha | ha
  · exact h g (ha ▸ hg) e
  · rw [ha] at hg
    have := hb g e.symm
    injection hg with hg
    omega
/-- The head of a slice. -/
structure Hd where
  A : Option Addr
  n : Nat
  c : Nat
def Hd.enc (h : Hd) : List Value := [.slice h.A h.n h.c]
theorem Hd_len (h : Hd) : h.enc.length = 1 := rfl
theorem IntsHd_info : (Try.prog.info? 28).map (fun i => (i.zero, i.size, i.bytes)) = some (some (.slice none 0 0), 1, 24) := by kernel_rfl
/-- Where a row sends a place. -/
def rowF (a : ByteArray) (i : Nat) : Nat := (bat a i - 49).toNat
def up (l : List Nat) : List Int := l.map fun x : Nat => (x : Int) + 1
theorem up_len (l : List Nat) : (up l).length = l.length := List.length_map _
theorem up_app (l m : List Nat) : up (l ++ m) = up l ++ up m := List.map_append
theorem up_mem {l : List Nat} {x : Nat} : hasUpTo (up l) (up l).length ((x : Int) + 1) ↔ x ∈ l := by
  constructor
  · rintro ⟨j, hj, _, e⟩
    have hj' : j < l.length := by rwa [up_len] at hj
    have : (up l)[j] = ((l[j] : Nat) : Int) + 1 := by simp [up]
    rw [this] at e
    have : l[j] = x := by omega
    exact this ▸ List.getElem_mem hj'
  · intro h
    obtain ⟨j, hj, e⟩ := List.getElem_of_mem h
    exact ⟨j, by rw [up_len]; exact hj, by rw [up_len]; exact hj, by simp [up, e]⟩
theorem rowF_lt {a : ByteArray} (h : isRow a) : ∀ i, i < a.size → rowF a i < a.size := fun i hi => by have := h.2.2.1 i hi; unfold rowF; omega
theorem rowF_inj {a : ByteArray} (h : isRow a) : ∀ i j, i < a.size → j < a.size → rowF a i = rowF a j → i = j := fun i j hi hj e => h.inj hi hj (by have := h.2.2.1 i hi; have := h.2.2.1 j hj; unfold rowF at e; omega)
theorem rowF_bat {a : ByteArray} (h : isRow a) {i : Nat} (hi : i < a.size) : bat a i - 48 = ((rowF a i : Nat) : Int) + 1 := by have := h.2.2.1 i hi; unfold rowF; omega
/-- The heads of the cycles' slices. -/
def HdsOf (hs : List Hd) (C : List Cy) : Prop := hs.map Hd.n = C.map fun c => c.2.length + 1
theorem HdsOf.push {hs : List Hd} {C : List Cy} (h : HdsOf hs C) (x : Hd) (c : Cy) (e : x.n = c.2.length + 1) : HdsOf (hs ++ [x]) (C ++ [c]) := by unfold HdsOf at *; simp [h, e]
theorem HdsOf.len {hs : List Hd} {C : List Cy} (h : HdsOf hs C) : hs.length = C.length := by have := congrArg List.length h; simpa using this
theorem cy_le (C : List Cy) : C.length ≤ (CycT.flat C).length := by
  induction C with
  | nil => simp [CycT.flat]
  | cons c C ih => rw [CycT.flat_cons]; simp [CycT.Cy.all]; omega
def lenV : Value → Nat
  | .slice _ n _ => n
  | _ => 0

set_option maxHeartbeats 3200000 in
theorem cyclesOf_t (a : ByteArray) (w : World) (ha : isRow a) :
    Calls Try.prog 22 #[.string a] w fun e w' => ∃ (A : Option Addr) (c : Nat) (hs : List Hd) (C : List Cy), e = .returned (.tuple #[.slice A hs.length c, .bool true]) ∧ Part a.size (rowF a) C a.size ∧ HdsOf hs C ∧ RdL w' w'.heap.size A 1 Hd.enc hs ∧ Below w.heap.size w w' := by
  have HA := Lib.hid ha
  have hs1 := ha.1
  have hs2 := ha.2.1
  have e1 := B_t ha
  have hinf := Lib.hid (rowF_inj ha)
  have hlf := Lib.hid (rowF_lt ha)
  clear ha
  go_enter Try.func22, Try.ntmps22
  go_upto_region 6 with (go_at_call 100; refine (l1Row_any a _).mono ?_; rintro e w1 ⟨rfl, k, rfl⟩)
  have hAt : Hid (∀ (j : Nat) (W : World), j < a.size → Calls Try.prog 94 #[.string a, .int .i64 ((j : Int) + 1)] W fun e w' => e = .returned (.int .i64 (((rowF a j : Nat) : Int) + 1)) ∧ W = w') := Lib.hid fun j W hj => by
    have := l1At_k a j ((j : Int) + 1) W rfl hj (by omega) (by have := HA.out.2.2.1 j hj; omega)
    rw [rowF_bat HA.out hj] at this; exact this
  have hb0 : Hid (Below w.heap.size w (w.drewN k)) := Lib.hid (below_drewN (Below.refl _ _) _)
  generalize w.drewN k = W0 at *
  have hz0 := hb0.out.size
  go_loopw [4, 5, 6] (fun o s v wr => ∃ (i : Nat) (C : List Cy) (hs : List Hd), i ≤ a.size ∧ v = .int .i64 ((i : Int) + 1) ∧ Part a.size (rowF a) C i ∧ HdsOf hs C ∧ Grow wr w.heap.size 28 1 Hd.enc o hs ∧ Grow wr w.heap.size 3 1 encInt s (up (CycT.flat C)) ∧ Apart o s ∧ Below w.heap.size w wr) (fun _ _ v _ => 10 - (intOf v).toNat)
  case atStart => exact ⟨0, [], [], by omega, by rfl, CycT.Part.start _ _, rfl, Grow.nil, Grow.nil, fun g hg => by simp [Value.ownBlock] at hg, hb0.out⟩
  case round =>
    obtain ⟨i, C, hs, hi, rfl, hP, hH, hgo, hgs, hap, hbl⟩ := hrel
    have HP := Lib.hid hP
    have HH := Lib.hid hH
    have HGo := Lib.hid hgo
    have HGs := Lib.hid hgs
    have HAp := Lib.hid hap
    have Hbl := Lib.hid hbl
    have hz1 := hbl.size
    clear hP hH hgo hgs hap hbl
    by_cases hlt : i < a.size
    · have d1 : decide ((i : Int) + 1 ≤ (a.size : Int)) = true := by simp; omega
      obtain ⟨A5, c5, rfl, ho5⟩ := HGs.out.own encInt_len
      have HO5 := Lib.hid ho5
      clear ho5
      by_cases hin : i ∈ CycT.flat C
      · have e2 := B_t (up_mem.2 hin)
        go_wp2_with (go_at_call 101; refine (l1Has_any (up (CycT.flat C)) _ (Nat.le_refl _) A5 c5 _ _ (HO5.out.rd encInt_len) (by have := CycT.nodupN_le _ _ HP.out.nd HP.out.lt; rw [up_len]; omega)).mono ?_; rintro e w' ⟨rfl, rfl⟩)
        go_roundw
        case rel => exact ⟨i + 1, C, hs, by omega, by go_num, HP.out.skip (.inl hin), HH.out, HGo.out, HGs.out, HAp.out, Hbl.out⟩
        case measure => simp [intOf]; omega
      · have e2 := B_f (fun h => hin (up_mem.1 h))
        obtain ⟨v, hv⟩ : ∃ v : Int, Hid (((rowF a i : Nat) : Int) + 1 = v) := ⟨_, Lib.hid rfl⟩
        by_cases hfix : rowF a i = i
        · have d2 : (v == (i : Int) + 1) = true := by rw [← hv.out]; simp [hfix]
          go_wp2_with (first | (go_at_call 101; refine (l1Has_any (up (CycT.flat C)) _ (Nat.le_refl _) A5 c5 _ _ (HO5.out.rd encInt_len) (by have := CycT.nodupN_le _ _ HP.out.nd HP.out.lt; rw [up_len]; omega)).mono ?_; rintro e w' ⟨rfl, rfl⟩) | (go_at_call 94; refine ((hv.out ▸ hAt.out i _ hlt)).mono ?_; rintro e w' ⟨rfl, rfl⟩))
          go_roundw
          case rel => exact ⟨i + 1, C, hs, by omega, by go_num, HP.out.skip (.inr hfix), HH.out, HGo.out, HGs.out, HAp.out, Hbl.out⟩
          case measure => simp [intOf]; omega
        · have d2 : (v == (i : Int) + 1) = false := by rw [← hv.out]; simp; omega
          go_upto_region 11 with (first | (go_at_call 101; refine (l1Has_any (up (CycT.flat C)) _ (Nat.le_refl _) A5 c5 _ _ (HO5.out.rd encInt_len) (by have := CycT.nodupN_le _ _ HP.out.nd HP.out.lt; rw [up_len]; omega)).mono ?_; rintro e w' ⟨rfl, rfl⟩) | (go_at_call 94; refine ((hv.out ▸ hAt.out i _ hlt)).mono ?_; rintro e w' ⟨rfl, rfl⟩))
          clear e2 d2
          obtain ⟨wo, hwo⟩ : ∃ wo, wo = wr := ⟨wr, rfl⟩
          rw [← hwo] at HGo HGs Hbl HO5 hz1
          rw [← hwo]
          clear hwo
          have hfl : Hid ((CycT.flat C).length ≤ a.size) := Lib.hid (CycT.nodupN_le _ _ HP.out.nd HP.out.lt)
          go_loopw [7, 8] (fun cy k wi => ∃ (cyc : List Nat) (cur : Nat), k = .int .i64 ((cur : Int) + 1) ∧ Run a.size (rowF a) C i cyc cur ∧ lenV cy = cyc.length ∧ Grow wi w.heap.size 3 1 encInt cy (up cyc) ∧ Apart cy u4 ∧ Apart cy (.slice A5 (up (CycT.flat C)).length c5) ∧ Grow wi w.heap.size 28 1 Hd.enc u4 hs ∧ Grow wi w.heap.size 3 1 encInt (.slice A5 (up (CycT.flat C)).length c5) (up (CycT.flat C)) ∧ Below w.heap.size w wi) (fun cy _ _ => 9 - lenV cy)
          case atStart => exact ⟨[], i, by rfl, CycT.Run.start hlt hin, rfl, Grow.nil, fun g hg => by simp [Value.ownBlock] at hg, fun g hg => by simp [Value.ownBlock] at hg, HGo.out, HGs.out, Hbl.out⟩
          case round =>
            obtain ⟨cyc, cur, rfl, hrun, hlen, hgc, hac, has5, hgo, hgs, hbl⟩ := hrel
            have HRun := Lib.hid hrun
            have HGc := Lib.hid hgc
            have HAc := Lib.hid hac
            have HAs := Lib.hid has5
            have HGo2 := Lib.hid hgo
            have HGs2 := Lib.hid hgs
            have Hbl2 := Lib.hid hbl
            have hz2 := hbl.size
            have hcl := Lib.hid hrun.cl
            have hcy := Lib.hid (CycT.nodupN_le _ _ hrun.nd hrun.lt)
            clear hrun hgc hac has5 hgo hgs hbl
            obtain ⟨A7, c7, rfl, ho7⟩ := HGc.out.own encInt_len
            have HO7 := Lib.hid ho7
            have Hlen := Lib.hid hlen
            clear ho7 hlen
            by_cases hc : cur ∈ cyc
            · have e2 := B_t (up_mem.2 hc)
              obtain ⟨l, hcyc, hpart⟩ := HRun.out.close HP.out hinf.out hc
              have HPart := Lib.hid hpart
              have hup : 0 < (up cyc).length := by rw [up_len, hcyc]; simp
              have hfin : (up (CycT.flat C)).length + (up cyc).length ≤ 1000000000 := by have := hfl.out; have := hcy.out; rw [up_len, up_len]; omega
              have hcl9 : (up cyc).length = l.length + 1 := by rw [up_len, hcyc]; simp
              have Hcl9 := Lib.hid hcl9
              have hflat : up (CycT.flat C) ++ up cyc = up (CycT.flat (C ++ [(i, l)])) := by rw [CycT.flat_app, up_app, hcyc]; simp [CycT.flat, CycT.Cy.all]
              have Hflat := Lib.hid hflat
              have hhs : hs.length ≤ 100 := by have h1 := HH.out.len; have h2 := cy_le C; have := hfl.out; omega
              clear hcl9 hflat hpart hcyc hc
              go_wp2_with (first
                | (go_at_call 101; refine (l1Has_any (up cyc) _ (Nat.le_refl _) A7 c7 _ _ (HO7.out.rd encInt_len) (by have := hcy.out; rw [up_len]; omega)).mono ?_; rintro e w' ⟨rfl, rfl⟩)
                | (at_builtin; refine wpList_pushAllA rfl (.tmp 40) (.tmp 41) 28 rfl w.heap.size 3 _ 1 8 encInt rfl Int_info rfl (by omega) _ (up (CycT.flat C)) (up cyc) A7 c7 _ rfl rfl (HO7.out.rd encInt_len) hup HGs2.out encInt_len (by simp [encInt, Value.oneCell']) hfin (by omega) (by omega) ?_; intro v5 w5 g5 b5 gb5 k5; have HG5 := Lib.hid g5; have HB5 := Lib.hid b5; have HGo5 := Lib.hid (HGo2.out.keptBy gb5 HAp.out); have HA5 := Lib.hid ((HAp.out.swap.growL HGo2.out.block_lt k5).swap); have hz5 := b5.size; clear g5 b5 gb5 k5)
                | (at_builtin; refine wpList_pushA rfl (.tmp 43) (.tmp 45) 25 rfl w.heap.size 28 _ 1 24 Hd.enc rfl IntsHd_info rfl (by omega) u4 hs [⟨A7, (up cyc).length, c7⟩] 1 rfl rfl (by simp) HGo5.out rfl Hd_len (by simp [Value.oneCell']) (by simp only [List.length_singleton]; omega) (by omega) (by omega) ?_; intro v6 w6 g6 b6 gb6 k6; have HG6 := Lib.hid g6; have HB6 := Lib.hid b6; have HGs6 := Lib.hid (HG5.out.keptBy gb6 HA5.out.swap); have HA6 := Lib.hid (HA5.out.grow HG5.out.block_lt k6); clear g6 b6 gb6 k6))
              have HBo := Lib.hid ((Hbl2.out.trans HB5.out).trans HB6.out)
              have HGs7 := Lib.hid (Hflat.out ▸ HGs6.out)
              exact ⟨⟨i + 1, C ++ [(i, l)], hs ++ [⟨A7, (up cyc).length, c7⟩], by omega, by go_num, HPart.out, HH.out.push _ _ Hcl9.out, HG6.out, HGs7.out, HA6.out, HBo.out⟩, by simp [intOf]; omega⟩
            · have e2 := B_f (fun h => hc (up_mem.1 h))
              have hcl1 := hcl.out
              have hpl := HRun.out.len hc
              go_wp2_with (first
                | (go_at_call 101; refine (l1Has_any (up cyc) _ (Nat.le_refl _) A7 c7 _ _ (HO7.out.rd encInt_len) (by have := hcy.out; rw [up_len]; omega)).mono ?_; rintro e w' ⟨rfl, rfl⟩)
                | (go_at_call 94; refine (hAt.out cur _ hcl1).mono ?_; rintro e w' ⟨rfl, rfl⟩)
                | (at_builtin; refine wpList_pushA rfl (.tmp 36) (.tmp 38) 28 rfl w.heap.size 3 _ 1 8 encInt rfl Int_info rfl (by omega) _ (up cyc) [(cur : Int) + 1] 1 rfl rfl (by simp) HGc.out rfl encInt_len (by simp [Value.oneCell']) (by simp only [List.length_singleton]; rw [up_len]; omega) (by omega) (by omega) ?_; intro v5 w5 g5 b5 gb5 k5; have HG5 := Lib.hid g5; have HB5 := Lib.hid b5; have HGo5 := Lib.hid (HGo2.out.keptBy gb5 HAc.out.swap); have HGs5 := Lib.hid (HGs2.out.keptBy gb5 HAs.out.swap); have HA5 := Lib.hid (HAc.out.grow HGo2.out.block_lt k5); have HA6 := Lib.hid (HAs.out.grow HGs2.out.block_lt k5); clear g5 b5 gb5 k5))
              have HG7 := Lib.hid (show Grow w5 w.heap.size 3 1 encInt v5 (up (cyc ++ [cur])) by rw [up_app]; exact HG5.out)
              have hl5 : lenV v5 = (cyc ++ [cur]).length := by
                obtain ⟨A9, c9, rfl, _⟩ := HG7.out.own encInt_len
                exact up_len _
              have HBo := Lib.hid (Hbl2.out.trans HB5.out)
              refine ⟨⟨cyc ++ [cur], rowF a cur, rfl, HRun.out.push HP.out hlf.out hinf.out hfix hc, hl5, HG7.out, HA5.out, HA6.out, HGo5.out, HGs5.out, HBo.out⟩, ?_⟩
              have h9 := Hlen.out
              have e9 : (cyc ++ [cur]).length = cyc.length + 1 := by simp
              rw [hl5, h9, e9]; omega
    · obtain rfl : i = a.size := by omega
      have d1 : decide ((a.size : Int) + 1 ≤ (a.size : Int)) = false := by simp; omega
      obtain ⟨A4, c4, rfl, ho4⟩ := HGo.out.own Hd_len
      go_wp2
      go_ret2
      exact ⟨A4, c4, hs, C, rfl, HP.out, HH.out, ho4.rd Hd_len, Hbl.out⟩
end Go.Proofs.Ytdecjijldcbnjaa
