import Derived.Test.YtkegbbndmfnolaaGreatDoorMBandsL05
import Derived.Test.YtkegbbndmfnolaaGreatDoorMBandsL09
import Derived.Test.YtkegbbndmfnolaaGreatDoorMBandsL00
import Derived.Test.YtkegbbndmfnolaaGreatDoorMBandsL01
import Derived.Test.YtkegbbndmfnolaaGreatDoorMBandsL16
import Derived.Test.YtkegbbndmfnolaaGreatDoorMBandsL02
import Derived.Deep.Slices
import Derived.Test.YtkegbbndmfnolaaGreatDoorMBandsL13
import Derived.Test.YtkegbbndmfnolaaGreatDoorMBandsL19
import Derived.Test.YtkegbbndmfnolaaGreatDoorMBandsL04
import Derived.Test.YtkegbbndmfnolaaGreatDoorMBandsL03
import Derived.Test.YtkegbbndmfnolaaGreatDoorMBandsL17
/-
 The bells of a band that are wrong, and the actions that put them right: contracts of both sides.
-/
namespace Go.Proofs.YtkegbbndmfnolaaGreatDoor
open Go.RowKit
set_option linter.unusedVariables false
set_option linter.unusedSimpArgs false
set_option maxRecDepth 100000

/-- The bells, up to the first k, whose ringers are elsewhere. -/
def wrongTo (t : ByteArray) (l : List Rgr) : Nat → List Int
 | 0 => []
 | k + 1 => match l[k]? with
  | some r => if r.place = placeS t ((k : Int) + 1) then wrongTo t l k else wrongTo t l k ++ [(k : Int) + 1]
  | none => wrongTo t l k
end Go.Proofs.YtkegbbndmfnolaaGreatDoor

/-
 A slice inside a value, opened: it reads as a list.
-/
namespace Go.Proofs.YtkegbbndmfnolaaGreatDoor
open Go.RowKit Go.ChangeShapes Go.WideShapes Go.Deep
set_option linter.unusedVariables false
set_option linter.unusedSimpArgs false

section
variable {H : Type} {enc : TypeId × Value → H} {P : Program} {w : World} {base : Nat} {spare : Nat → Bool} {held : Bool}
end

end Go.Proofs.YtkegbbndmfnolaaGreatDoor

/-
 A law's arguments, opened: a method, its calls, a band.
-/
namespace Go.Proofs.YtkegbbndmfnolaaGreatDoor
open Go.ChangeShapes Go.WideShapes Go.ChangeAt Go.RowKit Go.Deep
set_option linter.unusedVariables false
set_option linter.unusedSimpArgs false
set_option maxRecDepth 100000

end Go.Proofs.YtkegbbndmfnolaaGreatDoor

/-
 The actions that put a band right: contracts of both sides, and the law.
-/
namespace Go.Proofs.YtkegbbndmfnolaaGreatDoor
open Go.RowKit Go.ChangeShapes Go.WideShapes Go.Deep
set_option linter.unusedVariables false
set_option linter.unusedSimpArgs false
set_option maxRecDepth 100000

/-- The action that tells the ringer of a bell. -/
def tellA (n : Int) : Act_ := ⟨5, n, 0, ⟨#[]⟩⟩
/-- The actions that tell these bells' ringers. -/
def tellL (l : List Int) : List Act_ := l.map tellA
end Go.Proofs.YtkegbbndmfnolaaGreatDoor

/-
 Contracts: lead heads with a call (both sides).
-/
namespace Go.Proofs.YtkegbbndmfnolaaGreatDoor
open Go.RowKit
set_option linter.unusedVariables false
set_option linter.unusedSimpArgs false
set_option maxRecDepth 100000










set_option maxHeartbeats 1600000 in
theorem leadHead_any (nm : ByteArray) (n : Nat) (x : List ByteArray) (A : Option Addr) (c : Nat) (w : World) (h : RdL w w.heap.size A 1 encString x) (h3 : 3 ≤ n) (h8 : n ≤ 8) (hl : x.length ≤ 1048576) (hx : chgOk x) :
  Calls Tryz.prog 181 #[.agg #[Value.string nm, .int .i64 (n : Int), .slice A x.length c]] w fun e w' => e = .returned (.string (after (chF n) (roundsS n) x x.length)) ∧ Below w.heap.size w w' := by
 have Hx := Lib.hid hx
 have hrow := row_rounds h3 h8
 have Hrow := Lib.hid hrow
 clear hx hrow
 have hW : ∃ W : World, Hid (w.alloc (.cells #[Value.string nm, .int .i64 (n : Int), .slice A x.length c] 26) = W) ∧ Hid (Below w.heap.size w W) ∧ w.heap.size + 1 ≤ W.heap.size ∧ Hid (Cells W w.heap.size 3 (fun i => (#[Value.string nm, .int .i64 (n : Int), .slice A x.length c] : Array Value).getD i undef)) :=
  ⟨_, Lib.hid rfl, Lib.hid ((Below.refl _ _).alloc (Nat.le_refl _) _), by simp, Lib.hid (Cells.newD _ #[Value.string nm, .int .i64 (n : Int), .slice A x.length c] _)⟩
 obtain ⟨W, hWe, hWb, hWs, hM⟩ := hW
 have H := Lib.hid (show RdL W W.heap.size A 1 encString x from (h.below hWb.out (Nat.le_refl _)).more hWb.out.size)
 clear h
 have u0 : W.cell? ⟨w.heap.size, 0, none⟩ = some (.string nm) := hM.out.cell (i := 0) (by omega)
 have u1 : W.cell? ⟨w.heap.size, 1, none⟩ = some (.int .i64 (n : Int)) := hM.out.cell (i := 1) (by omega)
 have u2 : W.cell? ⟨w.heap.size, 2, none⟩ = some (.slice A x.length c) := hM.out.cell (i := 2) (by omega)
 have f0 := Later.cell u0 (show w.heap.size < W.heap.size by omega)
 have f1 := Later.cell u1 (show w.heap.size < W.heap.size by omega)
 have f2 := Later.cell u2 (show w.heap.size < W.heap.size by omega)
 go_enter Tryz.func181, Tryz.ntmps181
 go_wp2_with fail
 rw [hWe.out]
 clear hWe
 refine wp_region_G (by kernel_rfl) [.q, .q, .s (fun _ u lo hi w' => u = .string (roundsS n)), .q, .q, .s (fun _ u lo hi w' => (∃ A2 c2, u = .slice A2 (x.length + 1) c2 ∧ OwnL w' lo hi A2 1 encString (walkL (chF n) (roundsS n) x (x.length + 1)))), .q] [0, 0, 1, 0, 0, 1, 0] rfl 3 (by kernel_rfl) (inC W) (W).heap.size (inC.size W) (inC.of (Below.refl _ _).drew) ?_
 (refine wpG_quiets 2 _ _ _ _ (by first | exact cls_none rfl | exact fun w h => h.1) (by intro j hj; rcases j with _ | _ | _ | _ | _ | _ | _ | _ | _ | _ | j <;> first | exact ⟨rfl, ⟨_, rfl, rfl⟩, rfl⟩ | (exfalso; omega)) ?_; simp only [List.take_succ_cons, List.take_zero, List.drop_succ_cons, List.drop_zero, Nat.zero_add, Nat.reduceAdd]; change wpQuiet _ _ (fun wq9 => ∃ x : Later W, wq9 = x.W) _ _ _; (repeat (go_big_quiet_step (fail))); refine wpQuiet_nil ?_; try dsimp only)
 (refine wpG_call _ rfl rfl rfl rfl (fun u lo hi => loc_pure _) 113 #[.int .i64 (n : Int)] (by intro w; go_simp) (by intro w1 hw1 hd; (refine (rounds_any n _ (by omega) (by omega)).mono ?_; rintro e w2 ⟨rfl, rfl⟩; exact ⟨_, rfl, hw1, eff_of_below (Below.refl _ _), rfl⟩)) ?_)
 (intro u5 lo5 hi5 hsat; obtain ⟨w1, hw1⟩ := hsat; have hr : u5 = .string (roundsS n) := (hw1.rec rfl 2).2.2; obtain rfl := hr; clear hw1; simp only [Act.put, List.setIfInBounds_toArray, List.set_cons_zero, List.set_cons_succ, Nat.reduceAdd])
 (refine wpG_quiets 2 _ _ _ _ (by first | exact cls_none rfl | exact fun w h => h.1) (by intro j hj; rcases j with _ | _ | _ | _ | _ | _ | _ | _ | _ | _ | j <;> first | exact ⟨rfl, ⟨_, rfl, rfl⟩, rfl⟩ | (exfalso; omega)) ?_; simp only [List.take_succ_cons, List.take_zero, List.drop_succ_cons, List.drop_zero, Nat.zero_add, Nat.reduceAdd]; change wpQuiet _ _ (fun wq9 => ∃ x : Later W, wq9 = x.W) _ _ _; (repeat (go_big_quiet_step (fail))); refine wpQuiet_nil ?_; try dsimp only)
 (refine wpG_call _ rfl rfl rfl rfl (fun u lo hi => loc_ex fun A => loc_ex fun c => loc_and (loc_pure _) (loc_own (Nat.le_refl _) (Nat.le_refl _))) 180 #[.string (roundsS n), .slice A x.length c] (by intro w; go_simp) (by intro w1 hw1 hd; (refine (rowsUnder_any n (roundsS n) x A c _ ((H.out.below hw1.below (Nat.le_refl _)).more hw1.below.size) h3 h8 Hrow.out hl Hx.out).mono ?_; rintro e w2 ⟨A2, c2, rfl, ho, hb⟩; exact ⟨_, rfl, hw1.step hb, eff_of_below hb, A2, c2, by rw [walkL_len], ho⟩)) ?_)
 (intro u lo hi hsat; obtain ⟨w1, hw1⟩ := hsat; have hr : ∃ A2 c2, u = .slice A2 (x.length + 1) c2 ∧ OwnL w1 lo hi A2 1 encString (walkL (chF n) (roundsS n) x (x.length + 1)) := (hw1.rec rfl 5).2.2; obtain ⟨A2, c2, rfl, _⟩ := hr; clear hw1; simp only [Act.put, List.setIfInBounds_toArray, List.set_cons_zero, List.set_cons_succ, Nat.reduceAdd])
 (refine wpG_quiets 1 _ _ _ _ (by first | exact cls_none rfl | exact fun w h => h.1) (by intro j hj; rcases j with _ | _ | _ | _ | _ | _ | _ | _ | _ | _ | j <;> first | exact ⟨rfl, ⟨_, rfl, rfl⟩, rfl⟩ | (exfalso; omega)) ?_; simp only [List.take_succ_cons, List.take_zero, List.drop_succ_cons, List.drop_zero, Nat.zero_add, Nat.reduceAdd]; change wpQuiet _ _ (fun wq9 => ∃ x : Later W, wq9 = x.W) _ _ _; (repeat (go_big_quiet_step (fail))); refine wpQuiet_nil ?_; try dsimp only)
 intro wz hz
 have hr1 : ∃ A c, Value.slice A2 (x.length + 1) c2 = .slice A (x.length + 1) c ∧ OwnL wz lo hi A 1 encString (walkL (chF n) (roundsS n) x (x.length + 1)) := (hz.rec rfl 5).2.2
 obtain ⟨A4, c4, hAe, hO⟩ := hr1
 obtain ⟨rfl, rfl⟩ : A2 = A4 ∧ c2 = c4 := by simpa using hAe
 have hbz := Lib.hid (hz.cls rfl).below
 have hlen := walkL_len (chF n) (roundsS n) x (x.length + 1)
 obtain ⟨g, hA2, _, _, _⟩ := hO.someStr (by rw [hlen]; omega)
 subst hA2
 obtain ⟨t0, _⟩ := hO.cellStr x.length (by rw [hlen]; omega)
 rw [walkL_at] at t0
 obtain ⟨T, hT⟩ : ∃ T, Hid (after (chF n) (roundsS n) x x.length = T) := ⟨_, Lib.hid rfl⟩
 rw [hT.out] at t0
 clear hz hAe hO hlen f0 f1 f2 u0 u1 u2
 go_wp2
 go_ret
 exact ⟨ret_str hT.out.symm, hWb.out.trans (hbz.out.mono hWb.out.size)⟩
set_option maxHeartbeats 1600000 in
theorem callHead_any (nm : ByteArray) (n : Nat) (x : List ByteArray) (A : Option Addr) (c : Nat) (b s call : ByteArray) (w : World) (h : RdL w w.heap.size A 1 encString x) (h3 : 3 ≤ n) (h8 : n ≤ 8) (hl : x.length ≤ 1048576) (h0 : 0 < x.length) (hx : chgOk (calledX x b s call)) :
  Calls Tryz.prog 154 #[.agg #[Value.string nm, .int .i64 (n : Int), .slice A x.length c], .agg #[Value.string b, .string s], .string call] w fun e w' => e = .returned (.string (hdS n x b s call)) ∧ Below w.heap.size w w' := by
 have Hx := Lib.hid hx
 clear hx
 have hW : ∃ W : World, Hid ((w.alloc (.cells #[Value.string nm, .int .i64 (n : Int), .slice A x.length c] 26)).alloc (.cells #[Value.string b, .string s] 28) = W) ∧ Hid (Below w.heap.size w W) ∧ w.heap.size + 2 ≤ W.heap.size ∧ Hid (Cells W w.heap.size 3 (fun i => (#[Value.string nm, .int .i64 (n : Int), .slice A x.length c] : Array Value).getD i undef)) ∧ Hid (Cells W (w.heap.size + 1) 2 (fun i => (#[Value.string b, .string s] : Array Value).getD i undef)) := by
  have z1 : w.heap.size + 1 = (w.alloc (.cells #[Value.string nm, .int .i64 (n : Int), .slice A x.length c] 26)).heap.size := by simp
  refine ⟨_, Lib.hid rfl, Lib.hid (((Below.refl _ _).alloc (Nat.le_refl _) _).alloc (by simp) _), by simp, Lib.hid ?_, Lib.hid ?_⟩
  ·exact (Cells.newD _ #[Value.string nm, .int .i64 (n : Int), .slice A x.length c] _).alloc _
  ·rw [z1]; exact Cells.newD _ #[Value.string b, .string s] _
 obtain ⟨W, hWe, hWb, hWs, hM, hK⟩ := hW
 have H := Lib.hid (show RdL W W.heap.size A 1 encString x from (h.below hWb.out (Nat.le_refl _)).more hWb.out.size)
 clear h
 have u0 : W.cell? ⟨w.heap.size, 0, none⟩ = some (.string nm) := hM.out.cell (i := 0) (by omega)
 have u1 : W.cell? ⟨w.heap.size, 1, none⟩ = some (.int .i64 (n : Int)) := hM.out.cell (i := 1) (by omega)
 have u2 : W.cell? ⟨w.heap.size, 2, none⟩ = some (.slice A x.length c) := hM.out.cell (i := 2) (by omega)
 have u3 : W.cell? ⟨w.heap.size + 1, 0, none⟩ = some (.string b) := hK.out.cell (i := 0) (by omega)
 have u4 : W.cell? ⟨w.heap.size + 1, 1, none⟩ = some (.string s) := hK.out.cell (i := 1) (by omega)
 go_enter Tryz.func154, Tryz.ntmps154
 go_wp2_with fail
 rw [hWe.out]
 clear hWe
 have hcl := Lib.hid (calledX_len x b s call)
 have hcd : Hid (Calls Tryz.prog 131 #[.agg #[Value.string nm, .int .i64 (n : Int), .slice A x.length c], .agg #[Value.string b, .string s], .string call] W fun e w' => MdOut nm n (calledX x b s call) W e w') := Lib.hid (calledLead_any ⟨nm, n, x, A, c⟩ b s call W H.out hl h0)
 have hll : (calledX x b s call).length ≤ 1048576 := by rw [hcl.out]; exact hl
 go_wp2_with (first | (go_at_call 131; refine hcd.out.mono ?_; rintro e w1 ⟨A1, c1, rfl, ho, hb1⟩; have Ho := Lib.hid ho; clear ho) | (go_at_call 181; refine (leadHead_any nm n (calledX x b s call) A1 c1 _ (Ho.out.rd encString_len) h3 h8 hll Hx.out).mono ?_; rintro e w2 ⟨rfl, hb2⟩))
 go_ret
 refine ⟨ret_str (by unfold hdS; rw [hcl.out]), hWb.out.trans ((hb1.mono hWb.out.size).trans (hb2.mono (Nat.le_trans hWb.out.size hb1.size)))⟩
end Go.Proofs.YtkegbbndmfnolaaGreatDoor

/-
 Contracts: the heads of a touch, whether it comes round (the reference's side).
-/
namespace Go.Proofs.YtkegbbndmfnolaaGreatDoor
open Go.RowKit
set_option linter.unusedVariables false
set_option linter.unusedSimpArgs false
set_option maxRecDepth 100000

theorem RdL.take {α : Type} {w : World} {b : Nat} {A : Option Addr} {size : Nat} {enc : α → List Value} {l : List α} (h : RdL w b A size enc l) (m : Nat) : RdL w b A size enc (l.take m) := by
 rcases h with h | ⟨g, off, hA, hg, hc⟩
 ·exact .inl (by subst h; simp)
 ·refine .inr ⟨g, off, hA, hg, fun i hi j u hu => hc i (by simp at hi; omega) j u ?_⟩
  rw [List.getElem_take] at hu; exact hu





end Go.Proofs.YtkegbbndmfnolaaGreatDoor

/-
 The rows of a touch (the reference's side), exactly.
-/
namespace Go.Proofs.YtkegbbndmfnolaaGreatDoor
open Go.RowKit
set_option linter.unusedVariables false
set_option linter.unusedSimpArgs false
set_option maxRecDepth 100000

/-- The rows of the first k leads of a touch. -/
noncomputable def rowsTo (n : Nat) (x : List ByteArray) (b s t : ByteArray) : Nat → List ByteArray
 | 0 => []
 | k + 1 => rowsTo n x b s t k ++ walkL (chF n) (headS n x b s t k) x x.length
theorem rowsTo_len (n : Nat) (x : List ByteArray) (b s t : ByteArray) : ∀ k, (rowsTo n x b s t k).length = k * x.length
 | 0 => by simp [rowsTo]
 | k + 1 => by simp only [rowsTo]; rw [List.length_append, rowsTo_len n x b s t k, walkL_len, Nat.add_mul, Nat.one_mul]
/-- The rows of a touch. -/
noncomputable def rowsL9 (n : Nat) (x : List ByteArray) (b s t : ByteArray) : List ByteArray := rowsTo n x b s t t.size





end Go.Proofs.YtkegbbndmfnolaaGreatDoor

/-
 Bands in plain words (no program): who stands right stays right, who stands wrong stays wrong where all hear; what is told puts a band right; the rows of a touch.
-/
namespace Go.Proofs.YtkegbbndmfnolaaGreatDoor
open Go.RowKit
set_option linter.unusedVariables false
set_option linter.unusedSimpArgs false

/-- All ringers stand where the true row has them. -/
def inL (t : ByteArray) (l : List Rgr) : Prop := ∀ (i : Nat) (hi : i < l.length), l[i].place = placeS t ((i : Int) + 1)
/-- Everyone hears. -/
def calmL (l : List Rgr) : Prop := ∀ (i : Nat) (hi : i < l.length), l[i].deaf = false
theorem place_times {n : Nat} (h3 : 3 ≤ n) (h8 : n ≤ 8) {t : ByteArray} (ht : rowN n t) (c : ByteArray) {v : Int} (h1 : 1 ≤ v) (h2 : v ≤ n) :
  placeS (timesS t (chgS n c)) v = ((mvP n c (placeS t v).toNat : Nat) : Int) := by
 obtain ⟨hr, hs⟩ := ht
 obtain ⟨i, hi, e⟩ := hr.hit (v := 48 + v) (by omega) (by omega)
 have hp := hr.place hi
 rw [e, show (48 : Int) + v - 48 = v by omega] at hp
 obtain ⟨k1, k2⟩ := row_chg h3 h8 c
 have hbd := pt_bd (swL_bd c n) (p := i + 1) (by omega) (by omega)
 obtain ⟨j, hj⟩ : ∃ j, pt (swL c n) (i + 1) = j + 1 := ⟨pt (swL c n) (i + 1) - 1, by omega⟩
 have hb : bat (timesS t (chgS n c)) j = 48 + v := by
  rw [bat_times _ _ j (by rw [k2]; omega)]
  have hq : bat (chgS n c) j = ((48 + (i + 1) : Nat) : Int) := by
   unfold chgS
   rw [ptS_bat (swL_bd c n) h8 (by omega), ← hj, pt_invol (swL_sep c n)]
  rw [hq, ← e]
  congr 1
  omega
 have hR := row_times hr k1 (by rw [hs, k2])
 have := hR.place (i := j) (by rw [size_times, k2]; omega)
 rw [hb, show (48 : Int) + v - 48 = v by omega] at this
 rw [this, hp]
 unfold mvP
 rw [show ((i : Int) + 1).toNat = i + 1 by omega, hj]
 omega
theorem mvP_inj {n : Nat} {c : ByteArray} {p q : Nat} (h : mvP n c p = mvP n c q) : p = q := by
 unfold mvP at h
 have := congrArg (pt (swL c n)) h
 rwa [pt_invol (swL_sep c n), pt_invol (swL_sep c n)] at this
theorem tru_row {b : Bnd} (h : bandP b) : rowN b.m.stage.toNat b.tru := by
 have h1 : (b.tru.size : Int) = b.m.stage := h.2.2.2.1.1
 exact ⟨h.2.2.2.1.2, by omega⟩
theorem placeS_in {t : ByteArray} (h : isRow t) {v : Int} (h1 : 1 ≤ v) (h2 : v ≤ t.size) : 1 ≤ placeS t v ∧ placeS t v ≤ t.size := place_in h h1 h2
/-- A ringer that hears. -/
theorem stepRs_place {b : Bnd} {i : Nat} (hi : i < (stepRs b).length) (hi' : i < b.rx.length) (hc : b.rx[i].deaf = false) : (stepRs b)[i].place = ((mvP b.m.stage.toNat (heardChg b) b.rx[i].place.toNat : Nat) : Int) := by
 unfold stepRs
 split <;> simp [hearR, stepR, hc]
theorem stepRs_calm {b : Bnd} (hc : calmL b.rx) : calmL (stepRs b) := by
 intro i hi
 have hi' : i < b.rx.length := by rw [stepRs_len] at hi; exact hi
 have := hc i hi'
 unfold stepRs
 split <;> simp [hearR, stepR, this]
theorem step_right {b : Bnd} (h : bandP b) {i : Nat} (hi : i < (stepRs b).length) (hi' : i < b.rx.length) (hc : b.rx[i].deaf = false) : (stepRs b)[i].place = placeS (stepT b) ((i : Int) + 1) ↔ b.rx[i].place = placeS b.tru ((i : Int) + 1) := by
 have hst := h.1.1.2.stage
 have h3 := hst.1
 have h8 := hst.2
 have hl := h.2.2.2.2.1
 have ht := tru_row h
 have hp := h.2.2.2.2.2 i hi'
 have hp1 := hp.1
 have hpl := placeS_in ht.1 (v := (i : Int) + 1) (by omega) (by rw [ht.2]; omega)
 rw [stepRs_place hi hi' hc]
 unfold stepT
 rw [place_times (n := b.m.stage.toNat) (by omega) (by omega) ht (heardChg b) (v := (i : Int) + 1) (by omega) (by omega)]
 constructor
 ·intro e
  have := mvP_inj (n := b.m.stage.toNat) (c := heardChg b) (Int.ofNat.inj e)
  omega
 ·intro e; rw [e]
theorem inL_step {b : Bnd} (h : bandP b) (hc : calmL b.rx) (hi : inL b.tru b.rx) : inL (stepT b) (stepRs b) := by
 intro i hi1
 have hi' : i < b.rx.length := by rw [stepRs_len] at hi1; exact hi1
 exact (step_right h hi1 hi' (hc i hi')).2 (hi i hi')
/-- The row of a band that stands right is the true one. -/
theorem rbI_one {t : ByteArray} {l : List Rgr} {p i : Nat} (s : ByteArray) (h : inL t l) (hr : isRow t) (hs : t.size = l.length) (hp : p < l.length) (hi : i < l.length) (e : bat t p = 49 + i) : ∀ k, k ≤ l.length → rbI l ((p : Int) + 1) s k = if i < k then s ++ numS (i + 1) else s := by
 have hpl : ∀ j (hj : j < l.length), l[j].place = (p : Int) + 1 ↔ j = i := by
  intro j hj
  rw [h j hj]
  constructor
  ·intro hq
   obtain ⟨q, hq1, hq2⟩ := hr.hit (v := 49 + j) (by omega) (by omega)
   have := hr.place hq1
   rw [hq2, show (49 : Int) + j - 48 = (j : Int) + 1 by omega] at this
   have hqp : q = p := by omega
   subst hqp
   omega
  ·rintro rfl
   have := hr.place (i := p) (by omega)
   rw [e, show (49 : Int) + j - 48 = (j : Int) + 1 by omega] at this
   exact this
 intro k
 induction k with
 | zero => intro _; simp [rbI]
 | succ k ih =>
  intro hk
  have ih := ih (by omega)
  by_cases hq : k = i
  ·rw [rbI_y (by omega) ((hpl k (by omega)).2 hq), ih, if_neg (by omega), if_pos (by omega), hq]
  ·rw [rbI_n (by omega) (fun x => hq ((hpl k (by omega)).1 x)), ih]
   by_cases hik : i < k
   ·rw [if_pos hik, if_pos (by omega)]
   ·rw [if_neg hik, if_neg (by omega)]
theorem rbO_in {t : ByteArray} {l : List Rgr} (h : inL t l) (hr : isRow t) (hs : t.size = l.length) : rbO l l.length = t := by
 have h8 := hr.2.1
 have key : ∀ p, p ≤ l.length → (rbO l p).size = p ∧ ∀ i : Nat, i < p → bat (rbO l p) i = bat t i := by
  intro p
  induction p with
  | zero => intro _; exact ⟨rfl, fun i hi => by omega⟩
  | succ p ih =>
   intro hp
   obtain ⟨s1, s2⟩ := ih (by omega)
   have hb := hr.2.2.1 p (by omega)
   obtain ⟨i, hi⟩ : ∃ i : Nat, bat t p = 49 + i := ⟨(bat t p - 49).toNat, by omega⟩
   have hil : i < l.length := by omega
   have e := rbI_one (rbO l p) h hr hs (p := p) (i := i) (by omega) hil hi l.length (Nat.le_refl _)
   rw [if_pos hil] at e
   have hnum : numS (i + 1) = mkS [((49 + i : Nat) : Int)] := by
    rw [numS_small (by omega)]
    show (⟨#[UInt8.ofNat (48 + (i + 1))]⟩ : ByteArray) = ⟨[UInt8.ofNat (((49 + i : Nat) : Int).toNat)].toArray⟩
    rw [Int.toNat_natCast, show 48 + (i + 1) = 49 + i by omega]
   have hns : (numS (i + 1)).size = 1 := by rw [hnum, size_mkS]; rfl
   simp only [rbO]
   rw [e]
   refine ⟨by rw [size_app, s1, hns], fun j hj => ?_⟩
   by_cases hjp : j < p
   ·rw [bat_append_l _ _ j (by rw [s1]; exact hjp)]; exact s2 j hjp
   ·have hjp : j = p := by omega
    subst hjp
    have := bat_append_r (rbO l j) (numS (i + 1)) 0
    simp only [s1, Nat.add_zero] at this
    rw [this, hnum, hi]
    have h0 := bat_mkS [((49 + i : Nat) : Int)] 0 (by simp) (by simp; omega) (by simp; omega)
    rw [show ((0 : Nat) : Int) = ((0 : Nat) : Int) from rfl, h0]
    simp
 obtain ⟨k1, k2⟩ := key l.length (Nat.le_refl _)
 exact str_ext (by rw [k1, hs]) (fun i hi => k2 i (by rw [k1] at hi; exact hi))
theorem times_assoc {n : Nat} {r a b : ByteArray} (ha : rowN n a) (hb : rowN n b) : timesS (timesS r a) b = timesS r (timesS a b) := by
 refine str_ext (by rw [size_times, size_times, size_times]) (fun i hi => ?_)
 rw [size_times] at hi
 have hx := hb.1.2.2.1 i hi
 have hbs := hb.2
 have has := ha.2
 obtain ⟨k, hk⟩ : ∃ k : Nat, bat b i - 49 = k := ⟨(bat b i - 49).toNat, by omega⟩
 rw [bat_times _ _ i hi, hk, bat_times _ _ k (by omega), bat_times _ _ i (by rw [size_times]; exact hi), bat_times _ _ i hi, hk]
theorem times_rounds {n : Nat} (h3 : 3 ≤ n) (h8 : n ≤ 8) {r : ByteArray} (hr : r.size = n) : timesS r (roundsS n) = r := by
 obtain ⟨_, h2⟩ := row_rounds h3 h8
 refine str_ext (by rw [size_times, h2, hr]) (fun i hi => ?_)
 rw [size_times, h2] at hi
 rw [bat_times _ _ i (by rw [h2]; exact hi), rounds_bat hi h8]
 congr 1
 omega
theorem after_times {n : Nat} (h3 : 3 ≤ n) (h8 : n ≤ 8) {r : ByteArray} (hr : r.size = n) (l : List ByteArray) : ∀ k, k ≤ l.length → after (chF n) r l k = timesS r (after (chF n) (roundsS n) l k) := by
 intro k
 induction k with
 | zero => intro _; rw [after_zero, after_zero, times_rounds h3 h8 hr]
 | succ k ih =>
  intro hk
  have hrow : rowN n (after (chF n) (roundsS n) l k) := after_rowN (fun r hr c _ => chF_row h3 h8 hr c) (row_rounds h3 h8) k
  rw [after_succ _ _ _ k (by omega), after_succ _ _ _ k (by omega), ih (by omega)]
  show timesS (timesS _ _) _ = timesS _ (timesS _ _)
  exact times_assoc hrow (row_chg h3 h8 _)
/-- The band behind one more action, and its rows. -/
noncomputable def playF (s : Bd × List ByteArray) (a : Act_) : Bd × List ByteArray := if (doA s.1 a).2 = true then ((doA s.1 a).1, if a.kind = 1 then s.2 ++ [rbO s.1.rx s.1.rx.length] else s.2) else s
theorem playS_fold (d : Bd) (l : List Act_) : ∀ k, playS d l k = (l.take k).foldl playF (d, []) := by
 intro k
 induction k with
 | zero => simp [playS]
 | succ k ih =>
  by_cases hk : k < l.length
  ·rw [List.take_succ_eq_append_getElem hk, List.foldl_append, ← ih]
   simp only [playS, List.getElem?_eq_getElem hk, List.foldl_cons, List.foldl_nil, playF]
  ·have e : playS d l (k + 1) = playS d l k := by simp only [playS, List.getElem?_eq_none (Nat.le_of_not_lt hk)]
   rw [e, ih, List.take_of_length_le (show l.length ≤ k + 1 by omega), List.take_of_length_le (show l.length ≤ k by omega)]
theorem playS_all (d : Bd) (l : List Act_) : playS d l l.length = l.foldl playF (d, []) := by rw [playS_fold, List.take_length]
/-- A step; a call. -/
def stepA : Act_ := ⟨1, 0, 0, ⟨#[]⟩⟩
def callA (c : ByteArray) : Act_ := ⟨2, 0, 0, c⟩
/-- The actions of the first k calls of a touch, with n changes a lead. -/
def actsTo (t : ByteArray) (n : Nat) : Nat → List Act_
 | 0 => []
 | k + 1 => actsTo t n k ++ (callA (callOf (bat t k)) :: List.replicate n stepA)
theorem actsTo_len (t : ByteArray) (n : Nat) : ∀ k, (actsTo t n k).length = k * (n + 1)
 | 0 => by simp [actsTo]
 | k + 1 => by simp only [actsTo]; rw [List.length_append, actsTo_len t n k, List.length_cons, List.length_replicate, Nat.add_mul, Nat.one_mul]
def actsL (t : ByteArray) (n : Nat) : List Act_ := actsTo t n t.size
/-- A band of a method that stands right, where everyone hears. -/
structure Fine (n : Nat) (x : List ByteArray) (b s : ByteArray) (d : Bd) : Prop where
 ok : bdP d
 st : d.stage = (n : Int)
 x : d.x = x
 b : d.bob = b
 s : d.sing = s
 inl : inL d.tru d.rx
 calm : calmL d.rx
theorem Fine.row {n : Nat} {x : List ByteArray} {b s : ByteArray} {d : Bd} (h : Fine n x b s d) : rbO d.rx d.rx.length = d.tru := by
 have hl : (d.rx.length : Int) = d.stage := h.ok.2.2.2.2.1
 have ht : (d.tru.size : Int) = d.stage := h.ok.2.2.2.1.1
 exact rbO_in h.inl h.ok.2.2.2.1.2 (by omega)
theorem fine_step {n : Nat} {x : List ByteArray} {b s : ByteArray} {d : Bd} (h : Fine n x b s d) {j : Nat} (hj : d.step = (j : Int)) (hjl : j < x.length) : ∃ d', doA d stepA = (d', true) ∧ Fine n x b s d' ∧ d'.tru = chF n d.tru ((calledX x b s d.call).getD j ByteArray.empty) ∧ d'.step = (if j + 1 = x.length then 0 else (j : Int) + 1) ∧ d'.call = (if j + 1 = x.length then pS else d.call) := by
 have hb : bandP d.b0 := h.ok
 have hst : d.stage.toNat = n := by rw [h.st]; omega
 have hc : heardChg d.b0 = (calledX x b s d.call).getD j ByteArray.empty := by
  have := calledX_at d.b0 (k := j) hj (by show j < d.x.length; rw [h.x]; exact hjl)
  rw [← this]
  show (calledX d.x d.bob d.sing d.call).getD j ByteArray.empty = _
  rw [h.x, h.b, h.s]
 have hlast : (d.b0.step = (d.b0.m.x.length : Int) - 1) ↔ j + 1 = x.length := by
  show d.step = (d.x.length : Int) - 1 ↔ _
  rw [hj, h.x]; omega
 refine ⟨stepD d.b0, doR_1 ⟨rfl, rfl, rfl, rfl⟩, ⟨stepD_bdP hb, h.st, h.x, h.b, h.s, inL_step hb h.calm h.inl, stepRs_calm h.calm⟩, ?_, ?_, ?_⟩
 ·show timesS d.tru (chgS d.stage.toNat (heardChg d.b0)) = _
  rw [hst, hc]; rfl
 ·show stepN d.b0 = _
  unfold stepN
  by_cases e : j + 1 = x.length
  ·rw [if_pos (hlast.2 e), if_pos e]
  ·rw [if_neg (fun q => e (hlast.1 q)), if_neg e]
   show d.step + 1 = _
   rw [hj]
 ·show stepC d.b0 = _
  unfold stepC
  by_cases e : j + 1 = x.length
  ·rw [if_pos (hlast.2 e), if_pos e]; rfl
  ·rw [if_neg (fun q => e (hlast.1 q)), if_neg e]; rfl
theorem fine_steps {n : Nat} {x : List ByteArray} {b s : ByteArray} {d : Bd} {rows : List ByteArray} (h : Fine n x b s d) (h0 : d.step = 0) : ∀ j, j ≤ x.length → ∃ d', (List.replicate j stepA).foldl playF (d, rows) = (d', rows ++ walkL (chF n) d.tru (calledX x b s d.call) j) ∧ Fine n x b s d' ∧ d'.tru = after (chF n) d.tru (calledX x b s d.call) j ∧ d'.step = (if j = x.length then 0 else (j : Int)) ∧ d'.call = (if j = x.length ∧ 0 < j then pS else d.call) := by
 intro j
 induction j with
 | zero => intro _; exact ⟨d, by simp [walkL_zero], h, by rw [after_zero], by rw [h0]; simp, by simp⟩
 | succ j ih =>
  intro hj
  obtain ⟨d1, e1, f1, t1, s1, c1⟩ := ih (by omega)
  rw [if_neg (by omega)] at s1 c1
  obtain ⟨d2, e2, f2, t2, s2, c2⟩ := fine_step f1 (j := j) s1 (by omega)
  refine ⟨d2, ?_, f2, ?_, ?_, ?_⟩
  ·rw [show List.replicate (j + 1) stepA = List.replicate j stepA ++ [stepA] from List.replicate_succ', List.foldl_append, e1]
   simp only [List.foldl_cons, List.foldl_nil, playF, e2]
   rw [if_pos trivial, if_pos (show stepA.kind = 1 from rfl), walkL_succ, f1.row, t1, List.append_assoc]
  ·rw [t2, c1, t1, after_succ _ _ _ j (by rw [calledX_len]; omega)]
   congr 1
   rw [List.getD_eq_getElem?_getD, List.getElem?_eq_getElem (by rw [calledX_len]; omega)]; rfl
  ·rw [s2]; push_cast; rfl
  ·rw [c2, c1]
   by_cases e : j + 1 = x.length
   ·rw [if_pos e, if_pos ⟨e, by omega⟩]
   ·rw [if_neg e, if_neg (fun q => e q.1)]
theorem walk_called {n : Nat} {x : List ByteArray} {b s call r : ByteArray} : walkL (chF n) r (calledX x b s call) x.length = walkL (chF n) r x x.length := by
 unfold walkL
 refine List.map_congr_left fun i hi => after_congr _ ?_
 have hi := List.mem_range.1 hi
 have e : ∀ l : List ByteArray, l.take i = (l.take (x.length - 1)).take i := fun l => by rw [List.take_take, Nat.min_eq_left (by omega)]
 rw [e (calledX x b s call), calledX_take, ← e x]
/-- The band behind the first k calls of a touch, and its rows. -/
theorem fine_touch {n : Nat} (h3 : 3 ≤ n) (h8 : n ≤ 8) {x : List ByteArray} {b s t : ByteArray} {d : Bd} (h : Fine n x b s d) (h0 : d.step = 0) (hl : 0 < x.length) (ht : d.tru = roundsS n) (hc : ∀ k, k < t.size → isCallP (callOf (bat t k))) : ∀ k, k ≤ t.size → ∃ d', (actsTo t x.length k).foldl playF (d, []) = (d', rowsTo n x b s t k) ∧ Fine n x b s d' ∧ d'.tru = headS n x b s t k ∧ d'.step = 0 := by
 intro k
 induction k with
 | zero => intro _; exact ⟨d, rfl, h, by rw [ht]; unfold headS; rw [after_zero], h0⟩
 | succ k ih =>
  intro hk
  obtain ⟨d1, e1, f1, t1, s1⟩ := ih (by omega)
  have hcl := hc k (by omega)
  have hdo : doA d1 (callA (callOf (bat t k))) = ({ d1 with call := callOf (bat t k) }, true) :=
   doR_2 (b := d1.b0) (kd := 2) (bl := 0) (yy := 0) (cl := callOf (bat t k)) (fun e => by have := e.1; omega) ⟨⟨rfl, rfl, rfl, rfl⟩, hcl⟩
  have hf : Fine n x b s { d1 with call := callOf (bat t k) } := ⟨by
   have := doR_bdP (b := d1.b0) (kd := 2) (bl := 0) (yy := 0) (cl := callOf (bat t k)) f1.ok (by rw [show doR d1.b0 2 0 0 (callOf (bat t k)) = _ from hdo])
   rw [show doR d1.b0 2 0 0 (callOf (bat t k)) = _ from hdo] at this
   exact this, f1.st, f1.x, f1.b, f1.s, f1.inl, f1.calm⟩
  obtain ⟨d2, e2, f2, t2, s2, _⟩ := fine_steps (rows := rowsTo n x b s t k) hf s1 x.length (Nat.le_refl _)
  refine ⟨d2, ?_, f2, ?_, by rw [s2, if_pos rfl]⟩
  ·simp only [actsTo]
   rw [List.foldl_append, e1, List.foldl_cons]
   have hp : playF (d1, rowsTo n x b s t k) (callA (callOf (bat t k))) = ({ d1 with call := callOf (bat t k) }, rowsTo n x b s t k) := by
    unfold playF
    simp only [hdo]
    rw [if_pos trivial, if_neg (show ¬ (callA (callOf (bat t k))).kind = 1 by simp [callA])]
   rw [hp, e2]
   simp only [rowsTo]
   rw [walk_called]
   show (d2, _ ++ walkL (chF n) d1.tru x x.length) = _
   rw [t1]
  ·rw [t2, headS_succ _ _ _ _ _ k (by omega)]
   show after (chF n) d1.tru (calledX x b s (callOf (bat t k))) x.length = _
   have hrow := headS_row h3 h8 x b s t k
   rw [t1, after_times h3 h8 hrow.2 _ _ (by rw [calledX_len]; exact Nat.le_refl _)]
   rfl
theorem newRs_at {n : Nat} (i : Nat) (hi : i < (newRs n).length) : (newRs n)[i] = ⟨(i : Int) + 1, false⟩ := by simp [newRs]
theorem newRs_in {n : Nat} (h3 : 3 ≤ n) (h8 : n ≤ 8) : inL (roundsS n) (newRs n) := by
 intro i hi
 rw [newRs_at i hi]
 rw [newRs_len] at hi
 obtain ⟨h1, h2⟩ := row_rounds h3 h8
 have := h1.place (i := i) (by rw [h2]; exact hi)
 rw [rounds_bat hi h8, show (49 : Int) + i - 48 = (i : Int) + 1 by omega] at this
 rw [this]
/-- A new band. -/
def newD0 (m : Mth) (b s : ByteArray) : Bd := ⟨m.name, m.stage, m.x, b, s, 0, pS, roundsS m.stage, newRs m.stage.toNat⟩
theorem newD0_ok {m : Mth} {b s : ByteArray} (h : callsP m b s) : bdP (newD0 m b s) := by
 have hst := h.1.2.stage
 have h3 := hst.1
 have h8 := hst.2
 have hx := h.1.2.1.1
 obtain ⟨r1, r2⟩ := row_rounds (n := m.stage.toNat) (by omega) (by omega)
 have hn : ((m.stage.toNat : Nat) : Int) = m.stage := by omega
 rw [hn] at r1 r2
 refine ⟨⟨h.1, h.2⟩, ⟨Int.le_refl _, by show (0 : Int) ≤ (m.x.length : Int) - 1; omega⟩, pS_call, ⟨by show ((roundsS m.stage).size : Int) = m.stage; omega, r1⟩, by show ((newRs m.stage.toNat).length : Int) = m.stage; rw [newRs_len]; omega, fun i hi => ?_⟩
 have hi9 : i < (newRs m.stage.toNat).length := hi
 show inB ((newRs m.stage.toNat)[i]'hi9).place 1 m.stage
 have hi' : i < m.stage.toNat := by rw [newRs_len] at hi9; exact hi9
 rw [newRs_at i hi9]
 exact ⟨by simp; omega, by simp; omega⟩
theorem newD0_fine {m : Mth} {b s : ByteArray} (h : callsP m b s) : Fine m.stage.toNat m.x b s (newD0 m b s) := by
 have hst := h.1.2.stage
 have h3 := hst.1
 have h8 := hst.2
 have hn : ((m.stage.toNat : Nat) : Int) = m.stage := by omega
 refine ⟨newD0_ok h, by show m.stage = _; omega, rfl, rfl, rfl, ?_, fun i hi => ?_⟩
 ·have := newRs_in (n := m.stage.toNat) (by omega) (by omega)
  rw [hn] at this
  exact this
 ·have hi9 : i < (newRs m.stage.toNat).length := hi
  show ((newRs m.stage.toNat)[i]'hi9).deaf = false
  rw [newRs_at i hi9]
/-- A new band rings the touch. -/
theorem play_touch {m : Mth} {b s t : ByteArray} (h : callsP m b s) (hc : ∀ k, k < t.size → isCallP (callOf (bat t k))) : (playS (newD0 m b s) (actsL t m.x.length) (actsL t m.x.length).length).2 = rowsL9 m.stage.toNat m.x b s t := by
 have hst := h.1.2.stage
 have h3 := hst.1
 have h8 := hst.2
 have hx := h.1.2.1.1
 have hn : ((m.stage.toNat : Nat) : Int) = m.stage := by omega
 obtain ⟨d, e, _⟩ := fine_touch (n := m.stage.toNat) (by omega) (by omega) (newD0_fine h) rfl (by omega) (by show roundsS m.stage = _; rw [hn]) hc t.size (Nat.le_refl _)
 rw [playS_all]
 unfold actsL rowsL9
 rw [e]
end Go.Proofs.YtkegbbndmfnolaaGreatDoor
