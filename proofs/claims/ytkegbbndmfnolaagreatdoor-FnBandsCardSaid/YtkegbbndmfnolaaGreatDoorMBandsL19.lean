import Derived.Test.YtkegbbndmfnolaaGreatDoorMBandsL06
/-
 A region that draws its order, by what holds behind whichever of its operations: words of our own that know no program.
-/
namespace Go.Proofs.YtkegbbndmfnolaaGreatDoor
open Go.RowKit
set_option linter.unusedVariables false
set_option linter.unusedSimpArgs false

def iRun (P : Program) (R : Value → World → Prop) : Result Next → Prop
 | .ok (.value u) w' => R u w'
 | .ok .skip w' => R undef w'
 | .ok (.enter f args) w' => Calls P f args w' fun e w'' => ∃ u, e = .returned u ∧ R u w''
 | _ => False
def dstOf (ops : Array Oper) (k : Nat) : Option Tmp := (ops[k]?).bind (·.dst)
/-- The frame where the chosen operations have yielded. -/
def putSel (ops : Array Oper) (val : Nat → Value) (a : Act) (L : Nat → Bool) : Nat → Act
 | 0 => a
 | n + 1 => if L n then (putSel ops val a L n).put (dstOf ops n) (val n) else putSel ops val a L n
def onL (L : Nat → Bool) (i : Nat) : Nat → Bool := fun k => if k = i then true else L k
theorem onL_same (L : Nat → Bool) (i : Nat) : onL L i i = true := if_pos rfl
theorem onL_other (L : Nat → Bool) {i k : Nat} (h : k ≠ i) : onL L i k = L k := if_neg h
section
variable {ops : Array Oper} {val val' : Nat → Value} {a : Act} {L L' : Nat → Bool}
theorem putSel_congr : ∀ n, (∀ k, k < n → L k = L' k) → (∀ k, k < n → L k = true → val k = val' k) → putSel ops val a L n = putSel ops val' a L' n
 | 0, _, _ => rfl
 | n + 1, h1, h2 => by
  have ih := putSel_congr n (fun k hk => h1 k (by omega)) (fun k hk => h2 k (by omega))
  simp only [putSel]
  rw [← h1 n (by omega), ih]
  by_cases e : L n = true
  ·rw [if_pos e, if_pos e, h2 n (by omega) e]
  ·rw [if_neg e, if_neg e]
theorem put_size (x : Act) (d : Option Tmp) (v : Value) : (x.put d v).tmps.size = x.tmps.size := by cases d <;> simp [Act.put]
theorem putSel_size : ∀ n, (putSel ops val a L n).tmps.size = a.tmps.size
 | 0 => rfl
 | n + 1 => by
  simp only [putSel]
  split
  ·rw [put_size, putSel_size n]
  ·exact putSel_size n
theorem putSel_put {i : Nat} : ∀ n, i < n → L i = false → (∀ k, k < n → k ≠ i → ∀ d, dstOf ops k = some d → dstOf ops i ≠ some d) → (putSel ops val a L n).put (dstOf ops i) (val i) = putSel ops val a (onL L i) n
 | n + 1, hi, hL, hd => by
  by_cases e : i = n
  ·subst e
   simp only [putSel]
   rw [hL, onL_same]
   simp only [Bool.false_eq_true, if_false, if_true]
   rw [putSel_congr (L := L) (L' := onL L i) (val' := val) i (fun k hk => (onL_other L (by omega)).symm) (fun _ _ _ => rfl)]
  ·have ih := putSel_put (i := i) n (by omega) hL (fun k hk => hd k (by omega))
   simp only [putSel]
   rw [onL_other L (show n ≠ i from fun h => e h.symm)]
   by_cases e2 : L n = true
   ·rw [if_pos e2, if_pos e2, Act.put_comm _ _ _ (hd n (by omega) (fun h => e h.symm)), ih]
   ·rw [if_neg e2, if_neg e2, ih]
theorem putSel_eval {k : Nat} {d : Tmp} (hL : L k = true) (hk : dstOf ops k = some d) (hsz : d < a.tmps.size) : ∀ n, k < n → (∀ m, m < n → m ≠ k → dstOf ops m ≠ some d) → (putSel ops val a L n).eval (.tmp d) = val k
 | n + 1, hkn, hd => by
  simp only [putSel]
  by_cases e : k = n
  ·subst e
   rw [if_pos hL, hk]
   have := putSel_size (ops := ops) (val := val) (a := a) (L := L) k
   simp [Act.eval, Act.put, Array.getD, this, hsz]
  ·have ih := putSel_eval hL hk hsz n (by omega) (fun m hm => hd m (by omega))
   split
   ·rw [Act.eval_put (fun d' hd' hx => hd n (by omega) (fun h => e h.symm) (by injection hx with hx; rw [hx]; exact hd'))]
    exact ih
   ·exact ih
theorem putSel_else {x : Operand} : ∀ n, (∀ m d, m < n → dstOf ops m = some d → x ≠ .tmp d) → (putSel ops val a L n).eval x = a.eval x
 | 0, _ => rfl
 | n + 1, h => by
  simp only [putSel]
  have ih := putSel_else n (fun m d hm => h m d (by omega))
  split
  ·rw [Act.eval_put (fun d hd => h n d (by omega) hd)]; exact ih
  ·exact ih
end
def putAll (a : Act) (l : List (Option Tmp × Value)) : Act := l.foldl (fun a x => a.put x.1 x.2) a
theorem putSel_list (ops : Array Oper) (val : Nat → Value) (a : Act) : ∀ n, putSel ops val a (fun _ => true) n = putAll a ((List.range n).map fun k => (dstOf ops k, val k))
 | 0 => rfl
 | n + 1 => by
  simp only [putSel, if_true]
  rw [putSel_list ops val a n, List.range_succ, List.map_append]
  unfold putAll
  rw [List.foldl_append]
  rfl
/-- All results go to places of their own; no operation is guarded. -/
def invOk (ops : Array Oper) (n : Nat) : Bool := (List.range ops.size).all fun i =>
 (match ops[i]? with | some o => true | none => false) && (match dstOf ops i with | none => true | some d => decide (d < n) && (List.range ops.size).all fun j => i == j || dstOf ops j != some d)
section
variable {P : Program} {ops : Array Oper} {md : Region.Mode} {Q : Exit → Act → World → Prop}
theorem ready_lt {listed : Array Bool} {i : Nat} (h : i ∈ Region.ready md ops listed) : i < ops.size := by
 obtain ⟨_, o, ho, _⟩ := mem_ready.1 h
 exact (Array.getElem?_eq_some_iff.1 ho).1
theorem wpAny_inv (Inv : Array Bool → Act → World → Prop) (hs : ∀ listed i a w, Inv listed a w → i ∈ Region.ready md ops listed → wpOp P ops Q i (fun a' w' => Inv (listed.setIfInBounds i true) a' w') a w)
  (he : ∀ listed a w, Inv listed a w → Region.ready md ops listed = [] → Q .normal a w) : ∀ (fuel : Nat) (listed : Array Bool) (a : Act) (w : World), listed.size = ops.size → (List.range ops.size).countP (fun i => !listed.getD i true) ≤ fuel → Inv listed a w → wpAny P md ops Q fuel listed a w := by
 intro fuel
 induction fuel with
 | zero =>
  intro listed a w hsz hc hI
  have hr : Region.ready md ops listed = [] := by
   cases h : Region.ready md ops listed with
   | nil => rfl
   | cons x xs =>
    have hx : x ∈ Region.ready md ops listed := by rw [h]; simp
    have h1 := (mem_ready.1 hx).1
    have hpos : 0 < (List.range ops.size).countP (fun i => !listed.getD i true) := List.countP_pos_iff.2 ⟨x, List.mem_range.2 (ready_lt hx), by simp [h1]⟩
    omega
  exact ⟨hr, he _ _ _ hI hr⟩
 | succ fuel ih =>
  intro listed a w hsz hc hI
  refine ⟨fun hr => he _ _ _ hI hr, fun i hi => wpOp_mono (fun a' w' hI' => ih _ _ _ (by simpa using hsz) ?_ hI') (hs _ _ _ _ hI hi)⟩
  have hilt := ready_lt hi
  have h1 := (mem_ready.1 hi).1
  have key : ∀ (l : List Nat), l.Nodup → i ∈ l → l.countP (fun k => !(listed.setIfInBounds i true).getD k true) + 1 = l.countP (fun k => !listed.getD k true) := by
   intro l
   induction l with
   | nil => intro _ h; simp at h
   | cons x l ihl =>
    intro hn hm
    obtain ⟨hx, hn'⟩ := List.nodup_cons.1 hn
    rw [List.countP_cons, List.countP_cons]
    by_cases e : x = i
    ·subst e
     have hsame : l.countP (fun k => !(listed.setIfInBounds x true).getD k true) = l.countP (fun k => !listed.getD k true) := List.countP_congr fun k hk => by
      have hne : x ≠ k := fun e => hx (by rw [e]; exact hk)
      rw [getD_set_ne true hne]
     have hset : (listed.setIfInBounds x true).getD x true = true := by
      have hlt : x < listed.size := by omega
      simp [Array.getD, hlt]
     rw [hsame, hset, h1]
     simp
    ·have hm' : i ∈ l := by
      rcases List.mem_cons.1 hm with h | h
      ·exact absurd h.symm e
      ·exact h
     have := ihl hn' hm'
     rw [getD_set_ne true (fun h => e h.symm)]
     omega
  have := key (List.range ops.size) List.nodup_range (List.mem_range.2 hilt)
  omega

theorem wp_region_inv {id : Nat} {a : Act} {w : World} (hm : P.follows .mixedOrders = true) {σ : Type} (val : σ → Nat → Value) (I : σ → (Nat → Bool) → World → Prop)
  (hok : invOk ops a.tmps.size = true) (s0 : σ) (h0 : I s0 (fun _ => false) w.drew)
  (step : ∀ i o, ops[i]? = some o → ∀ s L w (ρ : Operand → Value) (y : Nat → Option Bool), I s L w → L i = false → (∀ e ∈ gWaits .any ops i, L e = true) → (∀ k d, L k = true → dstOf ops k = some d → ρ (.tmp d) = val s k) →
   (∀ x, (∀ k d, dstOf ops k = some d → x ≠ .tmp d) → ρ x = a.eval x) → (∀ k d c, L k = true → dstOf ops k = some d → val s k = .bool c → y k = some c) →
   (Region.wanted o y = true ∧ iRun P (fun v w' => ∃ s', (∀ k, L k = true → val s' k = val s k) ∧ v = val s' i ∧ I s' (onL L i) w') ((execOp ρ o).run P w)) ∨ (Region.wanted o y = false ∧ ∃ s', (∀ k, L k = true → val s' k = val s k) ∧ undef = val s' i ∧ I s' (onL L i) w))
  (lst : σ → List (Option Tmp × Value)) (hlst : ∀ s, (List.range ops.size).map (fun k => (dstOf ops k, val s k)) = lst s)
  (fin : ∀ s L w, (∀ k, k < ops.size → L k = true) → I s L w → Q .normal (putAll a (lst s)) w)
  (hend : ∀ L : Array Bool, L.size = ops.size → Region.ready .any ops L = [] → (∀ k, k < ops.size → L.getD k false = true)) : (Code.region id ops true).wp P Q a w := by
 have hall : ∀ i, i < ops.size → (∃ o, ops[i]? = some o) ∧ ∀ d, dstOf ops i = some d → d < a.tmps.size ∧ ∀ j, j < ops.size → j ≠ i → dstOf ops j ≠ some d := fun i hi => by
  unfold invOk at hok
  have h1 := List.all_eq_true.1 hok i (List.mem_range.2 hi)
  rw [Bool.and_eq_true] at h1
  refine ⟨?_, fun d hd => ?_⟩
  ·have h2 := h1.1
   cases ho : ops[i]? with
   | none => rw [ho] at h2; cases h2
   | some o => exact ⟨o, rfl⟩
  ·have h2 := h1.2
   rw [hd] at h2
   simp only [Bool.and_eq_true, decide_eq_true_eq] at h2
   refine ⟨h2.1, fun j hj hji hdj => ?_⟩
   have h3 := List.all_eq_true.1 h2.2 j (List.mem_range.2 hj)
   rw [hdj] at h3
   simp at h3
   exact hji h3.symm
 have hnone : ∀ k, (Array.replicate ops.size false).getD k false = false := fun k => by
  simp only [Array.getD_eq_getD_getElem?, Array.getElem?_replicate]
  split <;> rfl
 refine wp_region_any hm (wpAny_inv (fun listed a' w' => listed.size = ops.size ∧ ∃ s, a' = putSel ops (val s) a (fun k => listed.getD k false) ops.size ∧ I s (fun k => listed.getD k false) w') ?_ ?_ _ _ _ _ (by simp) (by
  have h := List.countP_le_length (p := fun i => !(Array.replicate ops.size false).getD i true) (l := List.range ops.size)
  simpa using h) ⟨by simp, s0, ?_, ?_⟩)
 ·rintro listed i a' w' ⟨hsz, s, rfl, hI⟩ hi
  have hilt := ready_lt hi
  have hun := (mem_ready.1 hi).1
  have hLi : listed.getD i false = false := by
   have hlt : i < listed.size := by omega
   simp [Array.getD, hlt] at hun ⊢
   exact hun
  obtain ⟨⟨o, ho⟩, hd⟩ := hall i hilt
  have hon : (fun k => (listed.setIfInBounds i true).getD k false) = onL (fun k => listed.getD k false) i := by
   funext k
   by_cases e : k = i
   ·subst e
    rw [onL_same]
    have hlt : k < listed.size := by omega
    simp [Array.getD, hlt]
   ·rw [onL_other _ e, getD_set_ne false (fun h => e h.symm)]
  have hst := step i o ho s (fun k => listed.getD k false) w' (putSel ops (val s) a (fun k => listed.getD k false) ops.size).eval (yielded ops (putSel ops (val s) a (fun k => listed.getD k false) ops.size).tmps) hI hLi (ready_waits hi)
   (fun k d hL hk => by
    have hkl : k < ops.size := by
     unfold dstOf at hk
     rcases Nat.lt_or_ge k ops.size with h | h
     ·exact h
     ·rw [Array.getElem?_eq_none h] at hk; cases hk
    exact putSel_eval hL hk ((hall k hkl).2 d hk).1 _ hkl ((hall k hkl).2 d hk).2)
   (fun x hx => putSel_else _ fun m d _ hmd => hx m d hmd)
   (fun k d c hL hk hv => by
    have hkl : k < ops.size := by
     unfold dstOf at hk
     rcases Nat.lt_or_ge k ops.size with h | h
     ·exact h
     ·rw [Array.getElem?_eq_none h] at hk; cases hk
    have he := putSel_eval (val := val s) (a := a) (L := fun k => listed.getD k false) hL hk ((hall k hkl).2 d hk).1 _ hkl ((hall k hkl).2 d hk).2
    have hsz2 := putSel_size (ops := ops) (val := val s) (a := a) (L := fun k => listed.getD k false) ops.size
    have hdl := ((hall k hkl).2 d hk).1
    have hk2 : (ops[k]?).bind (·.dst) = some d := hk
    unfold yielded
    rw [hk2]
    simp only [Option.bind_some]
    have hlt2 : d < (putSel ops (val s) a (fun k => listed.getD k false) ops.size).tmps.size := by rw [hsz2]; exact hdl
    have he2 : (putSel ops (val s) a (fun k => listed.getD k false) ops.size).tmps[d] = val s k := by
     rw [← he]
     show _ = Array.getD _ d undef
     rw [Array.getD, dif_pos hlt2]; rfl
    rw [Array.getElem?_eq_getElem hlt2, he2, hv])
  have hdd : dstOf ops i = o.dst := by unfold dstOf; rw [ho]; rfl
  have key : ∀ v w'', (∃ s', (∀ k, listed.getD k false = true → val s' k = val s k) ∧ v = val s' i ∧ I s' (onL (fun k => listed.getD k false) i) w'') → (listed.setIfInBounds i true).size = ops.size ∧ ∃ s', (putSel ops (val s) a (fun k => listed.getD k false) ops.size).put o.dst v = putSel ops (val s') a (fun k => (listed.setIfInBounds i true).getD k false) ops.size ∧ I s' (fun k => (listed.setIfInBounds i true).getD k false) w'' := by
   rintro v w'' ⟨s', h1, rfl, h3⟩
   refine ⟨by simpa using hsz, s', ?_, by rw [hon]; exact h3⟩
   rw [hon, ← hdd, ← putSel_put _ hilt hLi (fun k hk hki d hdk hdi => (hd d hdi).2 k hk hki hdk), putSel_congr (val := val s) (val' := val s') (L := fun k => listed.getD k false) (L' := fun k => listed.getD k false) _ (fun _ _ => rfl) (fun k _ hk => (h1 k hk).symm)]
  unfold wpOp
  rw [ho]
  dsimp only
  rcases hst with ⟨hwt, hst⟩ | ⟨hwt, hst⟩
  rotate_left
  ·rw [if_neg (by rw [hwt]; exact Bool.false_ne_true)]
   exact key _ _ hst
  rw [if_pos hwt]
  refine .inl ?_
  unfold Oper.wp
  cases hr : (execOp (putSel ops (val s) a (fun k => listed.getD k false) ops.size).eval o).run P w' with
  | ok n w2 =>
   rw [hr] at hst
   cases n <;> simp only [iRun] at hst <;> simp only [Oper.upon]
   case value u => exact key _ _ hst
   case skip => exact key _ _ hst
   case enter f args => exact hst.mono fun e w3 ⟨u, he, hu⟩ => by subst he; exact key _ _ hu
  | halt x w2 => rw [hr] at hst; simp only [iRun] at hst
 ·rintro listed a' w' ⟨hsz, s, rfl, hI⟩ hr
  have hL := hend listed hsz hr
  have e : putSel ops (val s) a (fun k => listed.getD k false) ops.size = putSel ops (val s) a (fun _ => true) ops.size := putSel_congr _ (fun k hk => hL k hk) (fun _ _ _ => rfl)
  rw [e, putSel_list, hlst]
  exact fin s _ w' hL hI
 ·have e : putSel ops (val s0) a (fun k => (Array.replicate ops.size false).getD k false) ops.size = putSel ops (val s0) a (fun _ => false) ops.size := putSel_congr _ (fun k _ => hnone k) (fun _ _ _ => rfl)
  rw [e]
  have : ∀ n, putSel ops (val s0) a (fun _ => false) n = a := fun n => by
   induction n with
   | zero => rfl
   | succ n ih => simp only [putSel]; simpa using ih
  exact (this _).symm
 ·have e : (fun k => (Array.replicate ops.size false).getD k false) = (fun _ => false) := funext hnone
  rw [e]
  exact h0
/-- As wp_region_inv, where no operation is guarded. -/
theorem wp_region_inv0 {id : Nat} {a : Act} {w : World} (hm : P.follows .mixedOrders = true) {σ : Type} (val : σ → Nat → Value) (I : σ → (Nat → Bool) → World → Prop)
  (hok : invOk ops a.tmps.size = true) (hng : (ops.all fun o => o.guard.isNone) = true) (s0 : σ) (h0 : I s0 (fun _ => false) w.drew)
  (step : ∀ i o, ops[i]? = some o → ∀ s L w (ρ : Operand → Value), I s L w → L i = false → (∀ e ∈ gWaits .any ops i, L e = true) → (∀ k d, L k = true → dstOf ops k = some d → ρ (.tmp d) = val s k) →
   (∀ x, (∀ k d, dstOf ops k = some d → x ≠ .tmp d) → ρ x = a.eval x) → iRun P (fun v w' => ∃ s', (∀ k, L k = true → val s' k = val s k) ∧ v = val s' i ∧ I s' (onL L i) w') ((execOp ρ o).run P w))
  (lst : σ → List (Option Tmp × Value)) (hlst : ∀ s, (List.range ops.size).map (fun k => (dstOf ops k, val s k)) = lst s)
  (fin : ∀ s L w, (∀ k, k < ops.size → L k = true) → I s L w → Q .normal (putAll a (lst s)) w)
  (hend : ∀ L : Array Bool, L.size = ops.size → Region.ready .any ops L = [] → (∀ k, k < ops.size → L.getD k false = true)) : (Code.region id ops true).wp P Q a w :=
 wp_region_inv hm val I hok s0 h0 (fun i o ho s L w ρ y hI hL hw hd hx _ => .inl ⟨wanted_none (by
  obtain ⟨hlt, he⟩ := Array.getElem?_eq_some_iff.1 ho
  have := Array.all_eq_true.1 hng i hlt
  rw [he] at this
  simpa using this) _, step i o ho s L w ρ hI hL hw hd hx⟩) lst hlst fin hend
/-- Where the operations wait for earlier ones alone, nothing is ready only where all are done. -/
theorem ready_end (h : ((List.range ops.size).all fun i => (gWaits .any ops i).all fun e => decide (e < i)) = true) (L : Array Bool) (hsz : L.size = ops.size) (hr : Region.ready .any ops L = []) : ∀ k, k < ops.size → L.getD k false = true := by
 intro k
 induction k using Nat.strongRecOn with
 | ind k ih =>
  intro hk
  have hlt : k < L.size := by omega
  cases hL : L.getD k false with
  | true => rfl
  | false =>
   exfalso
   have hmem : k ∈ Region.ready .any ops L := by
    refine mem_ready.2 ⟨?_, ops[k], by rw [Array.getElem?_eq_getElem hk], fun e he hb => ?_⟩
    ·simp [Array.getD, hlt] at hL ⊢; exact hL
    ·have h1 := List.all_eq_true.1 h k (List.mem_range.2 hk)
     have hw : e.on ∈ gWaits .any ops k := by
      unfold gWaits
      rw [Array.getElem?_eq_getElem hk]
      exact List.mem_map.2 ⟨e, List.mem_filter.2 ⟨by simpa using he, hb⟩, rfl⟩
     have h2 := List.all_eq_true.1 h1 _ hw
     have h3 : e.on < k := by simpa using h2
     exact ih _ h3 (by omega)
   rw [hr] at hmem
   cases hmem
end
theorem wait_mem {md : Region.Mode} {ops : Array Oper} {i e : Nat} (h : (gWaits md ops i).contains e = true) : e ∈ gWaits md ops i := by simpa using h
theorem not_dst {ops : Array Oper} {t : Tmp} (h : (ops.all fun o => o.dst != some t) = true) : ∀ k d, dstOf ops k = some d → Operand.tmp t ≠ .tmp d := fun k d hk he => by
 injection he with he
 subst he
 unfold dstOf at hk
 cases ho : ops[k]? with
 | none => rw [ho] at hk; cases hk
 | some o =>
  rw [ho] at hk
  obtain ⟨hlt, he⟩ := Array.getElem?_eq_some_iff.1 ho
  have := Array.all_eq_true.1 h k hlt
  rw [he] at this
  have hk' : o.dst = some t := hk
  rw [hk'] at this
  simp at this
theorem not_dst_const {ops : Array Oper} {v : Value} : ∀ k d, dstOf ops k = some d → Operand.const v ≠ .tmp d := fun _ _ _ h => by cases h
section
variable {P : Program} {R : Value → World → Prop} {r : Result Next} {w' : World}
theorem iRun_val {v : Value} (e : r = .ok (.value v) w') (h : R v w') : iRun P R r := by rw [e]; exact h
theorem iRun_skip (e : r = .ok .skip w') (h : R undef w') : iRun P R r := by rw [e]; exact h
theorem iRun_call {f : FuncId} {args : Array Value} (e : r = .ok (.enter f args) w') (h : Calls P f args w' fun e w'' => ∃ u, e = .returned u ∧ R u w'') : iRun P R r := by rw [e]; exact h
end
end Go.Proofs.YtkegbbndmfnolaaGreatDoor
