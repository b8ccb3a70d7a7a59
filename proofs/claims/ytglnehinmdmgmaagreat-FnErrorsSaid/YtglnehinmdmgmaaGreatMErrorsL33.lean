import Derived.Test.YtglnehinmdmgmaaGreatMErrorsL20
import Derived.Test.YtglnehinmdmgmaaGreatMErrorsL32
import Derived.Test.YtglnehinmdmgmaaGreatMErrorsL14
import Derived.Test.YtglnehinmdmgmaaGreatMErrorsLSh
import Derived.Shelf.SlSortCmp.WholeK
import Derived.Shelf.SlSortCmp.NoneTotal
/-
  The library's sort at a list of blows: what it leaves, in our own words.
-/
namespace Go.Proofs.YtglnehinmdmgmaaGreat
open Go.RowKit Go.Sort Go.Shelf
set_option linter.unusedVariables false
set_option linter.unusedSimpArgs false
set_option maxRecDepth 100000

/-- Blows of no large numbers. -/
abbrev Bs : Type := {x : Blw // smallB x}
instance : Inhabited Bs := ⟨⟨⟨0, 0, 0⟩, by simp [smallB]⟩⟩
def encBs (x : Bs) : List Value := Blw.enc x.1
def cfB (x y : Bs) : Int := (x.1.row - y.1.row) * 9 + x.1.place - y.1.place
theorem cfB_key (x y : Bs) : cfB x y = keyB x.1 - keyB y.1 := by unfold cfB keyB; omega
theorem ltB (x y : Bs) : ltOf cfB x y = decide (keyB x.1 < keyB y.1) := by
  unfold ltOf; rw [cfB_key]; congr 1; rw [eq_iff_iff]; omega
theorem swoB : SWO (ltOf cfB) where
  irrefl x := by rw [ltB]; simp
  trans x y z h1 h2 := by rw [ltB] at *; simp at *; omega
  ntrans x y z h1 h2 := by rw [ltB] at *; simp at *; omega
/-- A list of such blows. -/
def arrB (l : List Blw) (h : ∀ x ∈ l, smallB x) : Array Bs := (l.attach.map fun x => (⟨x.1, h x.1 x.2⟩ : Bs)).toArray
theorem arrB_size (l : List Blw) (h : ∀ x ∈ l, smallB x) : (arrB l h).size = l.length := by simp [arrB]
theorem arrB_at (l : List Blw) (h : ∀ x ∈ l, smallB x) (i : Nat) (hi : i < l.length) : ((arrB l h)[i]!).1 = l[i] := by
  rw [getElem!_pos _ i (by rw [arrB_size]; exact hi)]; simp [arrB]
theorem arrB_list (l : List Blw) (h : ∀ x ∈ l, smallB x) : (arrB l h).toList.map (·.1) = l := by
  apply List.ext_getElem
  · simp [arrB]
  · intro i h1 h2; simp [arrB]
theorem holdsB {w : World} {c0 c1 g : Nat} {l : List Blw} (h : ∀ x ∈ l, smallB x) (ho : OwnL w c0 c1 (some ⟨g, 0, none⟩) 3 Blw.enc l) : HoldsK encBs 3 w g 0 (arrB l h) := by
  intro t ht
  rw [size_flatK, arrB_size] at ht
  rw [get_flatK encBs 3 (arrB l h) t (by rw [arrB_size]; exact ht), Nat.zero_add]
  have h3 : t / 3 < l.length := by omega
  have := ho.get Blw_enc_len (t / 3) h3 (t % 3) (by omega)
  rw [show t / 3 * 3 + t % 3 = t by omega] at this
  refine ⟨?_, this.2⟩
  rw [this.1]
  show some _ = some _
  unfold encBs
  rw [arrB_at l h (t / 3) h3]
  rw [List.getElem!_eq_getElem?_getD, List.getD_eq_getElem?_getD, List.getElem?_eq_getElem (by rw [Blw_enc_len]; omega)]
  rfl
theorem ownB {w w' : World} {c0 c1 g n : Nat} {l : List Blw} (h : ∀ x ∈ l, smallB x) (h0 : 0 < l.length) (ho : OwnL w c0 c1 (some ⟨g, 0, none⟩) 3 Blw.enc l) (d : Array Bs) (os : Array Obj) (hs : d.size = l.length) (hw : w' = sortWorldK encBs 3 w g 0 n d os) :
    OwnL w' c0 c1 (some ⟨g, 0, none⟩) 3 Blw.enc (d.toList.map (·.1)) ∧ Chg g (g + 1) w w' := by
  subst hw
  obtain ⟨g', f, hA, hg1, hg2, hc⟩ := ho.cells h0
  simp only [Option.some.injEq, Addr.mk.injEq, and_true] at hA
  subst hA
  have hcs := cells_sortWorld id w g n (flatK encBs 3 (arrB l h)) (flatK encBs 3 d) os hc.lt (holdsB h ho) (by rw [size_flatK, size_flatK, arrB_size, hs])
  refine ⟨.inr ⟨g, fun i => id (flatK encBs 3 d)[i]!, rfl, hg1, hg2, ?_, fun i hi j u hu => ?_⟩, chg_sortWorld id w g 0 n (flatK encBs 3 d) os⟩
  · rw [List.length_map, Array.length_toList, ← size_flatK encBs 3 d]; exact hcs
  · rw [List.length_map, Array.length_toList] at hi
    have hj : j < 3 := by have := (List.getElem?_eq_some_iff.1 hu).1; rw [Blw_enc_len] at this; exact this
    show (flatK encBs 3 d)[i * 3 + j]! = u
    rw [get_flatK encBs 3 d (i * 3 + j) (by omega), show (i * 3 + j) / 3 = i by omega, show (i * 3 + j) % 3 = j by omega]
    unfold encBs
    rw [getElem!_pos d i hi]
    rw [List.getElem_map, Array.getElem_toList] at hu
    rw [List.getElem!_eq_getElem?_getD, hu]; rfl
set_option maxHeartbeats 1600000 in
theorem blowCmp_any (x y : Bs) (W : World) : Calls Tryz.prog 39 #[.agg #[.int .i64 x.1.row, .int .i64 x.1.place, .int .i64 x.1.at_], .agg #[.int .i64 y.1.row, .int .i64 y.1.place, .int .i64 y.1.at_]] W fun e w' => e = .returned (.int .i64 (cfB x y)) ∧ ∃ q os', w' = grow (W.drewN q) os' := by
  obtain ⟨⟨r, p, t⟩, ⟨h1, h2⟩, ⟨h3, h4⟩, _⟩ := x
  obtain ⟨⟨r', p', t'⟩, ⟨k1, k2⟩, ⟨k3, k4⟩, _⟩ := y
  simp only at h1 h2 h3 h4 k1 k2 k3 k4
  show Calls _ _ #[.agg #[.int .i64 r, .int .i64 p, .int .i64 t], .agg #[.int .i64 r', .int .i64 p', .int .i64 t']] W fun e w' => e = .returned (.int .i64 ((r - r') * 9 + p - p')) ∧ _
  have a1 : IntKind.i64.wrap (r - r') = r - r' := IntWalk.i64_in _ (by omega)
  have a2 : IntKind.i64.wrap ((r - r') * 9) = (r - r') * 9 := IntWalk.i64_in _ (by omega)
  have a3 : IntKind.i64.wrap ((r - r') * 9 + p) = (r - r') * 9 + p := IntWalk.i64_in _ (by omega)
  have a4 : IntKind.i64.wrap ((r - r') * 9 + p - p') = (r - r') * 9 + p - p' := IntWalk.i64_in _ (by omega)
  go_enter Tryz.func39, Tryz.ntmps39
  go_wp2
  go_ret
  exact ⟨rfl, 0, _, by rw [alloc_eq_grow, alloc_eq_grow, grow_grow]; rfl⟩
theorem sortBlow_any (l : List Blw) (h : ∀ x ∈ l, smallB x) (hl : l.length ≤ 1048576) (A : Option Addr) (cap c0 c1 : Nat) (w : World) (ho : OwnL w c0 c1 A 3 Blw.enc l) :
    Calls Tryz.prog 38 #[.slice A l.length cap, .func (.func 39) #[] #[]] w fun e w' => e = .returned (.tuple #[]) ∧ ∃ s : List Blw, s.Perm l ∧ (s.Pairwise fun x y => keyB x ≤ keyB y) ∧ OwnL w' c0 c1 A 3 Blw.enc s ∧ (w' = w ∨ ∃ g, A = some ⟨g, 0, none⟩ ∧ c0 ≤ g ∧ Chg g (g + 1) w w') := by
  by_cases h0 : 0 < l.length
  · obtain ⟨g, f, hA, hg1, hg2, hc⟩ := ho.cells h0
    subst hA
    have eg : ∀ args w, (callFunc 39 args).run Tryz.prog w = .ok (.enter 39 args) w := enters_of Tryz.func39 (by kernel_rfl) rfl
    have hcmp : CmpLays Tryz.prog 39 #[] encBs 3 cfB g 0 (arrB l h).size w := fun m os dk hs x y => blowCmp_any x y _
    have hcon := AnyQ.slices_SortFunc Tryz.sortFuncBlow 3 Tryz.isAgg43 Tryz.sizeOf43 encBs (fun _ => rfl) (fun x v hv => by simp [encBs, Blw.enc] at hv; rcases hv with rfl | rfl | rfl <;> rfl) cfB swoB 39 #[] g 0 cap (arrB l h) w eg hcmp (holdsB h ho) hc.lt (by rw [arrB_size]; omega)
    change Calls Tryz.prog 38 _ _ _ at hcon
    rw [arrB_size] at hcon
    refine hcon.mono ?_
    rintro e w' ⟨rfl, d', n, os, hperm, hsort, hw⟩
    obtain ⟨hs1, _, hpm⟩ := hperm
    rw [arrB_size] at hs1
    have hpm2 : d'.toList.Perm (arrB l h).toList := by
      rw [Array.extract_eq_self_of_le (by rw [hs1]; exact Nat.le_refl _), Array.extract_eq_self_of_le (by rw [arrB_size]; exact Nat.le_refl _)] at hpm
      exact hpm
    obtain ⟨k1, k2⟩ := ownB h h0 ho d' os hs1 hw
    refine ⟨rfl, d'.toList.map (·.1), ?_, ?_, k1, .inr ⟨g, rfl, hg1, k2⟩⟩
    · have := hpm2.map (·.1)
      rwa [arrB_list] at this
    · rw [List.pairwise_iff_getElem]
      intro i j hi hj hij
      rw [List.length_map, Array.length_toList] at hi hj
      have := hsort i j (Nat.zero_le _) hij (by omega)
      rw [ltB] at this
      have := of_decide_eq_false this
      rw [getElem!_pos d' i hi, getElem!_pos d' j hj] at this
      rw [List.getElem_map, List.getElem_map, Array.getElem_toList, Array.getElem_toList]
      omega
  · obtain rfl : l = [] := List.eq_nil_of_length_eq_zero (by omega)
    refine (AnyF.slices_SortFunc_none Tryz.sortFuncBlow A cap (.func (.func 39) #[] #[]) w).mono ?_
    rintro e w' ⟨rfl, rfl⟩
    exact ⟨rfl, [], List.Perm.refl _, List.Pairwise.nil, ho, .inl rfl⟩
end Go.Proofs.YtglnehinmdmgmaaGreat

/-
  BlowsIn of the program: its contract.
-/
namespace Go.Proofs.YtglnehinmdmgmaaGreat
open Go.RowKit
set_option linter.unusedVariables false
set_option linter.unusedSimpArgs false
set_option maxRecDepth 100000






set_option maxHeartbeats 6400000 in
theorem iBlowsIn_any (st gap hand : Int) (rows : List ByteArray) (l : List Stk) (s : Int) (A A2 : Option Addr) (c c2 : Nat) (w : World) (h : RdL w w.heap.size A 1 encString rows) (h2 : RdL w w.heap.size A2 2 Stk.enc l) (hl : rows.length ≤ 1048576) (hl2 : l.length ≤ 1048576) (hs : ∀ x ∈ rows, String_small 1048576 x) : Calls Tryz.prog 13 #[.agg #[.int .i64 st, .int .i64 gap, .int .i64 hand], .slice A rows.length c, .slice A2 l.length c2, .int .i64 s] w fun e w' => BiC (biR st gap hand rows l s) w e w' := by
  obtain ⟨V, hV, hVs, HBV, HCV⟩ : ∃ V, Hid (w.alloc (.cells #[.int .i64 st, .int .i64 gap, .int .i64 hand] 33) = V) ∧ w.heap.size + 1 = V.heap.size ∧ Hid (Below w.heap.size w V) ∧ Hid (Cells V w.heap.size 3 (fun i => (#[Value.int .i64 st, .int .i64 gap, .int .i64 hand] : Array Value).getD i undef)) := ⟨_, Lib.hid rfl, by simp, Lib.hid ((Below.refl _ _).alloc (Nat.le_refl _) _), Lib.hid (box3_new w _ _ _ _)⟩
  have H1 := Lib.hid ((h.below HBV.out (Nat.le_refl _)).more HBV.out.size)
  have Hr1 := Lib.hid h
  have Hr2 := Lib.hid h2
  have Hs := Lib.hid hs
  clear h h2 hs
  by_cases hR : rowsP rows
  rotate_left
  · have e1 := B_f hR
    have Hn := Lib.hid (biR_n (st := st) (gap := gap) (hand := hand) (rows := rows) (l := l) (s := s) (fun x => hR x.1))
    clear hR
    go_enter Tryz.func13, Tryz.ntmps13
    go_upto_region 1 with fail
    rw [hV.out]
    go_wp2_with (first | (go_at_call 18; refine (goodRows_any rows A c V H1.out hl Hs.out).mono ?_; rintro e w1 ⟨rfl, rfl⟩) | fail)
    go_ret2
    exact BiC.no Hn.out rfl HBV.out
  have e1 := B_t hR
  by_cases h0 : 0 < rows.length
  rotate_left
  · have hn0 : ((rows.length : Int) == 0) = true := by rw [beq_iff_eq]; omega
    have Hn := Lib.hid (biR_n (st := st) (gap := gap) (hand := hand) (rows := rows) (l := l) (s := s) (fun x => h0 x.2.1))
    clear hR h0
    go_enter Tryz.func13, Tryz.ntmps13
    go_upto_region 1 with fail
    rw [hV.out]
    go_wp2_with (first | (go_at_call 18; refine (goodRows_any rows A c V H1.out hl Hs.out).mono ?_; rintro e w1 ⟨rfl, rfl⟩) | fail)
    go_ret2
    exact BiC.no Hn.out rfl HBV.out
  have hn0 : ((rows.length : Int) == 0) = false := by rw [beq_eq_false_iff_ne]; omega
  obtain ⟨g0, of0, hA0, hg0, hc0⟩ := Hr1.out.at h0
  have s0 : V.cell? ⟨g0, of0, none⟩ = some (.string rows[0]) := (HBV.out.cell (p := ⟨g0, of0, none⟩) hg0).trans (by have := hc0 0 _ rfl; simpa using this)
  have hsz := sz0_eq rows h0
  obtain ⟨t, ht⟩ : ∃ t, Hid (rows[0] = t) := ⟨_, Lib.hid rfl⟩
  have ht8 : t.size ≤ 8 := by have := (hR.2 0 h0).1.2.1; rw [ht.out] at this; exact this
  have hk800 := hR.1
  rw [ht.out] at s0 hsz
  have Hsz := Lib.hid hsz
  have HR := Lib.hid hR
  have H0 := Lib.hid h0
  have HMB : Hid (∀ (k : Nat) (W : World), k < t.size → Below w.heap.size w W → Calls Tryz.prog 35 #[.agg #[.int .i64 st, .int .i64 gap, .int .i64 hand], .slice A rows.length c, .slice A2 l.length c2, .int .i64 ((k : Int) + 1), .int .i64 s] W fun e w' => BmC (mbR st gap hand rows l ((k : Int) + 1) s) W e w') := Lib.hid fun k W hk hW => iMatchB_any st gap hand rows l ((k : Int) + 1) s A A2 c c2 W ((Hr1.out.below hW (Nat.le_refl _)).more hW.size) ((Hr2.out.below hW (Nat.le_refl _)).more hW.size) hl hl2 Hs.out HR.out H0.out ⟨by omega, by rw [Hsz.out]; omega⟩
  subst hA0
  clear hR ht h0 hc0 hsz
  obtain ⟨bx, hbx⟩ : ∃ b, Hid (w.heap.size = b) := ⟨_, Lib.hid rfl⟩
  obtain ⟨b9, hb9⟩ : ∃ b, Hid (V.heap.size = b) := ⟨_, Lib.hid rfl⟩
  go_enter Tryz.func13, Tryz.ntmps13
  go_upto_region 1 with fail
  rw [hV.out]
  go_upto_region 4 with (first | (go_at_call 18; refine (goodRows_any rows (some ⟨g0, of0, none⟩) c V H1.out hl Hs.out).mono ?_; rintro e w1 ⟨rfl, rfl⟩) | fail)
  go_upto_region 6 with fail
  rw [hbx.out] at HCV
  rw [hbx.out]
  have hxb : bx < b9 := by have := hbx.out; have := hb9.out; omega
  go_loopw [11, 12] (fun v bv wr => ∃ k : Nat, k ≤ t.size ∧ bv = .int .i64 ((k : Int) + 1) ∧ Hid (Grow wr b9 43 3 Blw.enc v (blTo st gap hand rows l s k)) ∧ Hid (∀ j : Nat, j < k → (mbR st gap hand rows l ((j : Int) + 1) s).2 = true) ∧ Hid (Cells wr bx 3 (fun i => (#[Value.int .i64 st, .int .i64 gap, .int .i64 hand] : Array Value).getD i undef)) ∧ Hid (Below w.heap.size w wr) ∧ b9 ≤ wr.heap.size) (fun _ i _ => t.size + 1 - (intOf i).toNat)
  case atStart => exact ⟨0, by omega, by rfl, Lib.hid (by rw [← hb9.out]; exact Grow.empty (Nat.le_refl _)), Lib.hid (fun j hj => by omega), Lib.hid (HCV.out.later ((Below.refl _ _).alloc (Nat.le_refl _) _)), Lib.hid (HBV.out.alloc HBV.out.size _), by simp [hb9.out]⟩
  case round =>
    obtain ⟨k, hk, rfl, HG, HJ, HC, HB, hz9⟩ := hrel
    clear HCV HBV s0
    have hbL := blTo_len (st := st) (gap := gap) (hand := hand) (l := l) (s := s) HR.out k
    have HL0s := Lib.hid (fun x (hx : x ∈ blTo st gap hand rows l s k) (hS : strikesP l) => blTo_small HR.out hS k x hx)
    by_cases hlt : k < t.size
    · have d1 : (k : Int) + 1 ≤ (t.size : Int) := by omega
      have hbs : Hid (blTo st gap hand rows l s (k + 1) = blTo st gap hand rows l s k ++ bbTo rows ((k : Int) + 1) (ofL l ((k : Int) + 1)) (mof st gap hand rows l s ((k : Int) + 1)) (mof st gap hand rows l s ((k : Int) + 1)).length) := Lib.hid rfl
      obtain ⟨L0, hL0⟩ : ∃ L, Hid (blTo st gap hand rows l s k = L) := ⟨_, Lib.hid rfl⟩
      rw [hL0.out] at HG hbL hbs
      have hM := Lib.hid (HMB.out k wr hlt HB.out)
      have hNo := Lib.hid (fun x : biP st gap hand rows l s => mb_of_bi x (k := k) (by rw [Hsz.out]; exact hlt))
      obtain ⟨R, hRe⟩ : ∃ R, Hid (mbR st gap hand rows l ((k : Int) + 1) s = R) := ⟨_, Lib.hid rfl⟩
      rw [hRe.out] at hM hNo
      obtain ⟨⟨O, x⟩, ok⟩ := R
      have hM2 : Hid (Calls Tryz.prog 35 #[.agg #[.int .i64 st, .int .i64 gap, .int .i64 hand], .slice (some ⟨g0, of0, none⟩) rows.length c, .slice A2 l.length c2, .int .i64 ((k : Int) + 1), .int .i64 s] wr fun e w' => ∃ (A' : Option Addr) (c' : Nat), e = .returned (.tuple #[.agg #[.slice A' O.length c', .int .i64 x], .bool ok]) ∧ OwnL w' wr.heap.size w'.heap.size A' 1 encInt O ∧ Below wr.heap.size wr w') := Lib.hid hM.out
      clear hM
      have b0 : wr.cell? ⟨bx, 0, none⟩ = some (.int .i64 st) := HC.out.cell (i := 0) (by omega)
      have b1 : wr.cell? ⟨bx, 1, none⟩ = some (.int .i64 gap) := HC.out.cell (i := 1) (by omega)
      have b2 : wr.cell? ⟨bx, 2, none⟩ = some (.int .i64 hand) := HC.out.cell (i := 2) (by omega)
      go_upto_region 9 with (first | (go_at_call 35; refine hM2.out.mono ?_; rintro e w1 ⟨A5, c5, rfl, ho5, hb5⟩; have HO5 := Lib.hid ho5; have HB5 := Lib.hid hb5; clear ho5 hb5) | fail)
      clear b0 b1 b2
      obtain ⟨V1, hV1, HM1, HBV1, hzV1⟩ : ∃ V1, Hid (w1.alloc (.cells #[.slice A5 O.length c5, .int .i64 x] 66) = V1) ∧ Hid (Cells V1 w1.heap.size 2 (bxM (.slice A5 O.length c5) x)) ∧ Hid (Below w1.heap.size w1 V1) ∧ w1.heap.size < V1.heap.size := ⟨_, Lib.hid rfl, Lib.hid (bxM_new w1 _ _ _), Lib.hid ((Below.refl _ _).alloc (Nat.le_refl _) _), by simp⟩
      rw [hV1.out]
      clear hV1
      have HBw1 := Lib.hid (HB.out.trans (HB5.out.mono HB.out.size))
      have HBw2 := Lib.hid (HBw1.out.trans (HBV1.out.mono HBw1.out.size))
      cases ok
      · go_wp2
        go_ret2
        exact BiC.no (biR_n (fun x => by have := hNo.out x; simp at this)) rfl HBw2.out
      obtain ⟨hOm, hmp, hak⟩ := mbR_ok hRe.out
      have hO60 := mof_60 hak
      have hOr := mof_rows (st := st) (gap := gap) (hand := hand) (l := l) (s := s) (bell := (k : Int) + 1) HR.out
      have HOat := Lib.hid (fun p hp => mof_at (st := st) (gap := gap) (hand := hand) (rows := rows) (l := l) (s := s) (bell := (k : Int) + 1) (k := p) hp)
      have HTb := Lib.hid (ofL_bd hmp.2 ((k : Int) + 1))
      rw [← hOm] at hO60 hOr HOat hbs
      clear hOm hmp hak
      have hot := ofL_len l ((k : Int) + 1)
      go_upto_region 12 with (first | (go_at_call 36; refine (ofBell_any l ((k : Int) + 1) A2 c2 V1 ((Hr2.out.below HBw2.out (Nat.le_refl _)).more HBw2.out.size) hl2).mono ?_; rintro e U ⟨A6, c6, rfl, hc6, ho6, hb6⟩; have HO6 := Lib.hid ho6; have HB6 := Lib.hid hb6; have m0 : U.cell? ⟨w1.heap.size, 0, none⟩ = some (.slice A5 O.length c5) := (HM1.out.later hb6).cell (i := 0) (by omega); clear ho6 hb6) | fail)
      obtain ⟨T, hT⟩ : ∃ T, Hid (ofL l ((k : Int) + 1) = T) := ⟨_, Lib.hid rfl⟩
      rw [hT.out] at HO6 HOat HTb hbs hot
      rw [hT.out]
      obtain ⟨lo, hlo⟩ : ∃ n, Hid (wr.heap.size = n) := ⟨_, Lib.hid rfl⟩
      have hz5 := HB5.out.size
      have hz6 := HB6.out.size
      have HQ5 : Hid (OwnL U lo U.heap.size A5 1 encInt O) := Lib.hid (((HO5.out.later HBV1.out).later HB6.out).mono (by rw [hlo.out]; exact Nat.le_refl _) (by omega))
      have HQ6 : Hid (OwnL U lo U.heap.size A6 1 encInt T) := Lib.hid (HO6.out.mono (by have := hlo.out; omega) (Nat.le_refl _))
      have HBU := Lib.hid (HBw2.out.trans (HB6.out.mono HBw2.out.size))
      have HBwU : Hid (Below wr.heap.size wr U) := Lib.hid ((HB5.out.trans (HBV1.out.mono hz5)).trans (HB6.out.mono (by omega)))
      have HGU := Lib.hid (HG.out.later HBwU.out)
      have HCU := Lib.hid (HC.out.later HBwU.out)
      go_upto_region 13 with fail
      clear m0
      obtain ⟨v0, hv0⟩ : ∃ v, u11 = v := ⟨_, rfl⟩
      rw [hv0] at HG HGU ⊢
      have hap : Hid (∀ g, v0.ownBlock = some g → g < lo ∨ U.heap.size ≤ g) := Lib.hid fun g hg => .inl (by rw [← hlo.out]; exact HG.out.block_lt g hg)
      clear hv0
      obtain ⟨hi, hhi⟩ : ∃ n, Hid (U.heap.size = n) := ⟨_, Lib.hid rfl⟩
      rw [hhi.out] at HQ5 HQ6 hap
      clear HG HO5 HB5 HM1 HBV1 HO6 HB6 HBw1 HBw2 HBwU HC
      go_loopw [11, 53] (fun v2 pv wr2 => ∃ p : Nat, p ≤ O.length ∧ pv = .int .i64 p ∧ Hid (Grow wr2 b9 43 3 Blw.enc v2 (L0 ++ bbTo rows ((k : Int) + 1) T O p)) ∧ Hid (OwnL wr2 lo hi A5 1 encInt O) ∧ Hid (OwnL wr2 lo hi A6 1 encInt T) ∧ Hid (∀ g, v2.ownBlock = some g → g < lo ∨ hi ≤ g) ∧ Hid (Cells wr2 bx 3 (fun i => (#[Value.int .i64 st, .int .i64 gap, .int .i64 hand] : Array Value).getD i undef)) ∧ Hid (Below w.heap.size w wr2) ∧ hi ≤ wr2.heap.size) (fun _ i _ => O.length - (intOf i).toNat)
      case atStart => exact ⟨0, by omega, by rfl, Lib.hid (by simpa [bbTo] using HGU.out), HQ5, HQ6, hap, HCU, HBU, by rw [hhi.out]; exact Nat.le_refl _⟩
      case round =>
        obtain ⟨p, hp, rfl, HG2, HP5, HP6, HA2, HC2, HB2, hz2⟩ := hrel
        clear HGU HQ5 HQ6 hap HCU HBU
        obtain ⟨v6, hv6⟩ : ∃ v, u11 = v := ⟨_, rfl⟩
        rw [hv6] at HG2 HA2 ⊢
        clear hv6
        have hzb : b9 ≤ wr.heap.size := by
          have := hlo.out; have := hhi.out; omega
        have hbbl := bbTo_len rows ((k : Int) + 1) T O p
        by_cases hlp : p < O.length
        · obtain ⟨gO, oO, hA5, hgO, hcO⟩ := (HP5.out.rd encInt_len).at hlp
          have q0 : wr.cell? ⟨gO, oO + p, none⟩ = some (.int .i64 O[p]) := by have := hcO 0 _ rfl; simpa using this
          obtain ⟨o1, o2⟩ := HOat.out p hlp
          have hgd : O.getD p 0 = O[p] := by rw [List.getD_eq_getElem?_getD, List.getElem?_eq_getElem hlp]; rfl
          by_cases hneg : 0 ≤ O[p]
          · obtain ⟨q, hq⟩ : ∃ q : Nat, O[p] = (q : Int) := ⟨O[p].toNat, by omega⟩
            have hqT : q < T.length := by omega
            obtain ⟨gT, oT, hA6, hgT, hcT⟩ := (HP6.out.rd encInt_len).at hqT
            have q1 : wr.drew.cell? ⟨gT, oT + q, none⟩ = some (.int .i64 T[q]) := by have := hcT 0 _ rfl; simpa using this
            have hpr : p < rows.length := by omega
            obtain ⟨gr, orr, hAr, hgr, hcr⟩ := Hr1.out.at hpr
            have q2 : wr.drew.cell? ⟨gr, orr + p, none⟩ = some (.string rows[p]) := (HB2.out.cell (p := ⟨gr, orr + p, none⟩) hgr).trans (by have := hcr 0 _ rfl; simpa using this)
            simp only [Option.some.injEq, Addr.mk.injEq, and_true] at hAr
            obtain ⟨rfl, rfl⟩ := hAr
            have hrow := (HR.out.2 p hpr).1
            have hra : rowAt rows p = rows[p] := rowAt_get hpr
            have htq : T.getD q 0 = T[q] := by rw [List.getD_eq_getElem?_getD, List.getElem?_eq_getElem hqT]; rfl
            have hbb := bbTo_y (rows := rows) (bell := (k : Int) + 1) (ts := T) (of := O) (k := p) (by rw [hgd]; exact hneg)
            rw [hgd, hq, Int.toNat_natCast, htq, hra] at hbb
            rw [hq] at q0
            obtain ⟨r, hr⟩ : ∃ r, Hid (rows[p] = r) := ⟨_, Lib.hid rfl⟩
            obtain ⟨tq, htqe⟩ : ∃ x, Hid (T[q] = x) := ⟨_, Lib.hid rfl⟩
            rw [hr.out] at q2 hrow hbb
            rw [htqe.out] at q1 hbb
            obtain ⟨pl, hpl⟩ : ∃ x, Hid (placeS r ((k : Int) + 1) = x) := ⟨_, Lib.hid rfl⟩
            rw [hpl.out] at hbb
            have hsu : Hid (L0 ++ bbTo rows ((k : Int) + 1) T O (p + 1) = L0 ++ bbTo rows ((k : Int) + 1) T O p ++ [⟨(p : Int), pl, tq⟩]) := Lib.hid (by rw [hbb, List.append_assoc])
            have HPl : Hid (∀ W, Calls Tryz.prog 37 #[.string r, .int .i64 ((k : Int) + 1)] W fun e w' => ∃ v, e = .returned v ∧ (v = .int .i64 pl ∧ w' = W)) := Lib.hid fun W => (placeOf_any r ((k : Int) + 1) W hrow (by omega) (by omega)).mono fun e w' h => ⟨_, h.1, by rw [hpl.out], h.2.symm⟩
            have hLn : (L0 ++ bbTo rows ((k : Int) + 1) T O p).length ≤ 100000 := by rw [List.length_append]; omega
            obtain ⟨L, hL⟩ : ∃ L, Hid (L0 ++ bbTo rows ((k : Int) + 1) T O p = L) := ⟨_, Lib.hid rfl⟩
            rw [hL.out] at HG2 hsu hLn
            have HP5' := HP5
            have HP6' := HP6
            subst hA5 hA6
            have dq : (q : Int) < (T.length : Int) := by omega
            clear hcO hcT hcr hgd hq hneg o1 o2 hrow hra htq hbb
            go_upto_region 16 with fail
            go_region_law (first
              | (refine step_callsX rfl 37 rfl #[.string r, .int .i64 ((k : Int) + 1)] (by go_simp) (HPl.out _) ?_; rintro v wA ⟨rfl, rfl⟩)
              | (refine step_pushA rfl (.tmp 60) (.tmp 73) 26 rfl b9 43 _ 3 24 Blw.enc rfl Blow_info rfl (by omega) v6 L [⟨(p : Int), pl, tq⟩] 1 rfl rfl (by simp) (HG2.out.later (Below.refl _ _).drew) rfl Blw_enc_len (by simp [Value.oneCell']) (by simp) (by simp only [List.length_singleton]; omega) (by omega) (by simp; omega) ?_; intro v8 w8 g8 b8 gb8 k8; have HG8 := Lib.hid g8; have HC8 := Lib.hid ((HC2.out.later (Below.refl _ _).drew).below b8 (by omega)); have HB8 := Lib.hid (HB2.out.drew.trans (b8.mono (by have := hbx.out; omega))); have HQ58 := Lib.hid (ownL_grown (HP5.out.later (Below.refl _ _).drew) gb8 HA2.out); have HQ68 := Lib.hid (ownL_grown (HP6.out.later (Below.refl _ _).drew) gb8 HA2.out); have hz8 : wr.heap.size ≤ w8.heap.size := b8.size; have HA8 : Hid (∀ g, v8.ownBlock = some g → g < lo ∨ hi ≤ g) := Lib.hid (fun g hg => by rcases k8 with e | e; exact HA2.out g (by rw [← e]; exact hg); exact .inr (by rw [e] at hg; injection hg with hg; have : wr.drew.heap.size = wr.heap.size := rfl; omega)); clear g8 b8 gb8 k8)
              | fail)
            all_goals
              go_wp2
              go_roundw
              case rel => exact ⟨p + 1, by omega, by go_num, Lib.hid (by rw [hsu.out]; exact HG8.out), HQ58, HQ68, HA8, HC8, HB8, by omega⟩
              case measure => simp [intOf]; omega
          · have hbb := bbTo_n (rows := rows) (bell := (k : Int) + 1) (ts := T) (of := O) (k := p) (by rw [hgd]; exact hneg)
            have hsu : Hid (L0 ++ bbTo rows ((k : Int) + 1) T O (p + 1) = L0 ++ bbTo rows ((k : Int) + 1) T O p) := Lib.hid (by rw [hbb])
            obtain ⟨y, hy⟩ : ∃ y, Hid (O[p] = y) := ⟨_, Lib.hid rfl⟩
            rw [hy.out] at q0 hneg
            subst hA5
            clear hcO hgd hbb o1 o2
            go_wp2
            go_roundw
            case rel => exact ⟨p + 1, by omega, by go_num, Lib.hid (by rw [hsu.out]; exact HG2.out), HP5, HP6, HA2, HC2, HB2, hz2⟩
            case measure => simp [intOf]; omega
        · obtain rfl : p = O.length := by omega
          go_wp2
          go_roundw
          case rel => exact ⟨k + 1, by omega, (by refine congrArg (Value.int .i64) ?_; omega), Lib.hid (by rw [hbs.out]; exact HG2.out), Lib.hid (fun j hj => by
            rcases Nat.lt_or_eq_of_le (Nat.le_of_lt_succ hj) with h' | rfl
            · exact HJ.out j h'
            · rw [hRe.out]), HC2, HB2, by have := hlo.out; have := hhi.out; omega⟩
          case measure => simp [intOf]; omega
    · obtain rfl : k = t.size := by omega
      have d1 : ¬ (t.size : Int) + 1 ≤ (t.size : Int) := by omega
      have hbi : biP st gap hand rows l s := bi_of_mb HR.out H0.out (by rw [Hsz.out]; exact HJ.out)
      have hsm : ∀ x ∈ blTo st gap hand rows l s t.size, smallB x := fun x hx => HL0s.out x hx hbi.2.2.2.1
      have HYy := Lib.hid (biR_y hbi)
      have HYz := Lib.hid (biR_z (st := st) (gap := gap) (hand := hand) (rows := rows) (l := l) (s := s))
      rw [Hsz.out] at HYy HYz
      clear hbi HL0s
      obtain ⟨L, hL⟩ : ∃ L, Hid (blTo st gap hand rows l s t.size = L) := ⟨_, Lib.hid rfl⟩
      rw [hL.out] at HG hbL HYy HYz hsm
      obtain ⟨A7, c7, rfl, ho7⟩ := HG.out.own Blw_enc_len
      have HSo : Hid (∀ cap, Calls Tryz.prog 38 #[.slice A7 L.length cap, .func (.func 39) #[] #[]] wr fun e w' => e = .returned (.tuple #[]) ∧ ∃ s : List Blw, s.Perm L ∧ (s.Pairwise fun x y => keyB x ≤ keyB y) ∧ OwnL w' b9 wr.heap.size A7 3 Blw.enc s ∧ (w' = wr ∨ ∃ g, A7 = some ⟨g, 0, none⟩ ∧ b9 ≤ g ∧ Chg g (g + 1) wr w')) := Lib.hid fun cap => sortBlow_any L hsm (by omega) A7 cap b9 wr.heap.size wr ho7
      clear ho7 hsm
      go_upto_region 19 with (first | (go_at_call 38; refine (HSo.out _).mono ?_; rintro e w2 ⟨rfl, S, hperm, hpw, ho, hch⟩; have HPm := Lib.hid hperm; have HPw := Lib.hid hpw; have HO := Lib.hid ho; have hSl : L.length = S.length := hperm.length_eq.symm; have HB2 : Hid (Below w.heap.size w w2) := (by rcases hch with rfl | ⟨g, _, hg, hc⟩; exact HB; exact Lib.hid (Go.Proofs.YtglnehinmdmgmaaGreat.Below.chg HB.out hc (by have := hbx.out; omega) HB.out.size)); have hzz : wr.heap.size ≤ w2.heap.size := (by rcases hch with rfl | ⟨g, _, hg, hc⟩; exact Nat.le_refl _; exact hc.size); clear hperm hpw ho hch) | fail)
      rw [hSl] at hbL
      have HS := Lib.hid (HO.out.rd Blw_enc_len)
      by_cases hbl : blowsP (t.size : Int) S
      · have e3 := B_t hbl
        have Heq := Lib.hid (sort_eq HPm.out HPw.out hbl)
        have hbl2 : blowsP (t.size : Int) (sortB L) := by rw [← Heq.out]; exact hbl
        have HY := Lib.hid (HYy.out hbl2)
        rw [← Heq.out] at HY
        clear hbl hbl2 hSl
        go_wp2_with (first | (go_at_call 19; refine (iBlows_any (t.size : Int) S A7 _ w2 HS.out (by omega)).mono ?_; rintro e w3 ⟨rfl, hb3⟩; have HB3 := Lib.hid hb3; clear hb3) | fail)
        go_ret2
        exact BiC.yes HY.out rfl rfl ((HO.out.later HB3.out).mono (by have := hb9.out; omega) (by have := HB3.out.size; omega)) (HB2.out.trans (HB3.out.mono HB2.out.size))
      · have e3 := B_f hbl
        have HY := Lib.hid (HYz.out (fun x => hbl ((blowsP_perm (HPm.out.trans (sortB_perm L).symm)).2 x)))
        clear hbl hSl
        go_wp2_with (first | (go_at_call 19; refine (iBlows_any (t.size : Int) S A7 _ w2 HS.out (by omega)).mono ?_; rintro e w3 ⟨rfl, hb3⟩; have HB3 := Lib.hid hb3; clear hb3) | fail)
        go_ret2
        exact BiC.no HY.out rfl (HB2.out.trans (HB3.out.mono HB2.out.size))
end Go.Proofs.YtglnehinmdmgmaaGreat
