import Derived.Test.YtkegbbndmfnolaaGreatDoorMBandSlipsL18
import Derived.Test.YtkegbbndmfnolaaGreatDoorMBandSlipsL25
import Derived.Test.YtkegbbndmfnolaaGreatDoorMBandSlipsL16
import Derived.Test.YtkegbbndmfnolaaGreatDoorMBandSlipsL15
import Derived.Test.YtkegbbndmfnolaaGreatDoorMBandSlipsL24
/-
  Bands in plain words (no program): who stands right stays right, who stands wrong stays wrong where all hear; what is told puts a band right; the rows of a touch.
-/
namespace Go.Proofs.YtkegbbndmfnolaaGreatDoor
open Go.RowKit
set_option linter.unusedVariables false
set_option linter.unusedSimpArgs false

/-- All ringers stand where the true row has them. -/
def inL (t : ByteArray) (l : List Rgr) : Prop := ∀ (i : Nat) (hi : i < l.length), l[i].place = placeS t ((i : Int) + 1)
/-- Everyone hears. -/
def calmL (l : List Rgr) : Prop := ∀ (i : Nat) (hi : i < l.length), l[i].deaf = false
theorem place_times {n : Nat} (h3 : 3 ≤ n) (h8 : n ≤ 8) {t : ByteArray} (ht : rowN n t) (c : ByteArray) {v : Int} (h1 : 1 ≤ v) (h2 : v ≤ n) :
    placeS (timesS t (chgS n c)) v = ((mvP n c (placeS t v).toNat : Nat) : Int) := by
  obtain ⟨hr, hs⟩ := ht
  obtain ⟨i, hi, e⟩ := hr.hit (v := 48 + v) (by omega) (by omega)
  have hp := hr.place hi
  rw [e, show (48 : Int) + v - 48 = v by omega] at hp
  obtain ⟨k1, k2⟩ := row_chg h3 h8 c
  have hbd := pt_bd (swL_bd c n) (p := i + 1) (by omega) (by omega)
  obtain ⟨j, hj⟩ : ∃ j, pt (swL c n) (i + 1) = j + 1 := ⟨pt (swL c n) (i + 1) - 1, by omega⟩
  have hb : bat (timesS t (chgS n c)) j = 48 + v := by
    rw [bat_times _ _ j (by rw [k2]; omega)]
    have hq : bat (chgS n c) j = ((48 + (i + 1) : Nat) : Int) := by
      unfold chgS
      rw [ptS_bat (swL_bd c n) h8 (by omega), ← hj, pt_invol (swL_sep c n)]
    rw [hq, ← e]
    congr 1
    omega
  have hR := row_times hr k1 (by rw [hs, k2])
  have := hR.place (i := j) (by rw [size_times, k2]; omega)
  rw [hb, show (48 : Int) + v - 48 = v by omega] at this
  rw [this, hp]
  unfold mvP
  rw [show ((i : Int) + 1).toNat = i + 1 by omega, hj]
  omega
theorem mvP_inj {n : Nat} {c : ByteArray} {p q : Nat} (h : mvP n c p = mvP n c q) : p = q := by
  unfold mvP at h
  have := congrArg (pt (swL c n)) h
  rwa [pt_invol (swL_sep c n), pt_invol (swL_sep c n)] at this
theorem tru_row {b : Bnd} (h : bandP b) : rowN b.m.stage.toNat b.tru := by
  have h1 : (b.tru.size : Int) = b.m.stage := h.2.2.2.1.1
  exact ⟨h.2.2.2.1.2, by omega⟩
theorem placeS_in {t : ByteArray} (h : isRow t) {v : Int} (h1 : 1 ≤ v) (h2 : v ≤ t.size) : 1 ≤ placeS t v ∧ placeS t v ≤ t.size := place_in h h1 h2
/-- A ringer that hears. -/
theorem stepRs_place {b : Bnd} {i : Nat} (hi : i < (stepRs b).length) (hi' : i < b.rx.length) (hc : b.rx[i].deaf = false) : (stepRs b)[i].place = ((mvP b.m.stage.toNat (heardChg b) b.rx[i].place.toNat : Nat) : Int) := by
  unfold stepRs
  split <;> simp [hearR, stepR, hc]
theorem step_right {b : Bnd} (h : bandP b) {i : Nat} (hi : i < (stepRs b).length) (hi' : i < b.rx.length) (hc : b.rx[i].deaf = false) : (stepRs b)[i].place = placeS (stepT b) ((i : Int) + 1) ↔ b.rx[i].place = placeS b.tru ((i : Int) + 1) := by
  have hst := h.1.1.2.stage
  have h3 := hst.1
  have h8 := hst.2
  have hl := h.2.2.2.2.1
  have ht := tru_row h
  have hp := h.2.2.2.2.2 i hi'
  have hp1 := hp.1
  have hpl := placeS_in ht.1 (v := (i : Int) + 1) (by omega) (by rw [ht.2]; omega)
  rw [stepRs_place hi hi' hc]
  unfold stepT
  rw [place_times (n := b.m.stage.toNat) (by omega) (by omega) ht (heardChg b) (v := (i : Int) + 1) (by omega) (by omega)]
  constructor
  · intro e
    have := mvP_inj (n := b.m.stage.toNat) (c := heardChg b) (Int.ofNat.inj e)
    omega
  · intro e; rw [e]
theorem wrongTo_congr {t t' : ByteArray} {l l' : List Rgr} (hl : l.length = l'.length) (h : ∀ (i : Nat) (h1 : i < l.length) (h2 : i < l'.length), l[i].place = placeS t ((i : Int) + 1) ↔ l'[i].place = placeS t' ((i : Int) + 1)) : ∀ k, wrongTo t l k = wrongTo t' l' k := by
  intro k
  induction k with
  | zero => rfl
  | succ k ih =>
    by_cases hk : k < l.length
    · have hk' : k < l'.length := by omega
      by_cases e : l[k].place = placeS t ((k : Int) + 1)
      · rw [wrongTo_y hk e, wrongTo_y hk' ((h k hk hk').1 e), ih]
      · rw [wrongTo_n hk e, wrongTo_n hk' (fun x => e ((h k hk hk').2 x)), ih]
    · simp only [wrongTo, List.getElem?_eq_none (Nat.le_of_not_lt hk), List.getElem?_eq_none (show l'.length ≤ k by omega)]
      exact ih
/-- Who stands wrong stays wrong where all hear. -/
theorem wrong_stays {b : Bnd} (h : bandP b) (hc : calmL b.rx) : wrongTo (stepT b) (stepRs b) (stepRs b).length = wrongTo b.tru b.rx b.rx.length := by
  rw [stepRs_len]
  exact wrongTo_congr (stepRs_len b) (fun i h1 h2 => step_right h h1 h2 (hc i h2)) _
theorem wrongTo_nil {t : ByteArray} {l : List Rgr} (h : inL t l) : ∀ k, wrongTo t l k = [] := by
  intro k
  induction k with
  | zero => rfl
  | succ k ih =>
    by_cases hk : k < l.length
    · rw [wrongTo_y hk (h k hk), ih]
    · simp only [wrongTo, List.getElem?_eq_none (Nat.le_of_not_lt hk)]; exact ih
theorem wrongTo_mem {t : ByteArray} {l : List Rgr} {m : Int} : ∀ k, k ≤ l.length → (m ∈ wrongTo t l k ↔ ∃ (i : Nat) (hi : i < l.length), i < k ∧ m = (i : Int) + 1 ∧ ¬ l[i].place = placeS t ((i : Int) + 1)) := by
  intro k
  induction k with
  | zero => intro _; simp [wrongTo]
  | succ k ih =>
    intro hk
    have ih := ih (by omega)
    have hk' : k < l.length := by omega
    by_cases e : l[k].place = placeS t ((k : Int) + 1)
    · rw [wrongTo_y hk' e, ih]
      constructor
      · rintro ⟨i, hi, h1, h2, h3⟩; exact ⟨i, hi, by omega, h2, h3⟩
      · rintro ⟨i, hi, h1, h2, h3⟩
        refine ⟨i, hi, ?_, h2, h3⟩
        rcases Nat.lt_or_eq_of_le (Nat.le_of_lt_succ h1) with h | rfl
        · exact h
        · exact absurd e h3
    · rw [wrongTo_n hk' e, List.mem_append, ih, List.mem_singleton]
      constructor
      · rintro (⟨i, hi, h1, h2, h3⟩ | h)
        · exact ⟨i, hi, by omega, h2, h3⟩
        · exact ⟨k, hk', by omega, h, e⟩
      · rintro ⟨i, hi, h1, h2, h3⟩
        rcases Nat.lt_or_eq_of_le (Nat.le_of_lt_succ h1) with h | rfl
        · exact .inl ⟨i, hi, h, h2, h3⟩
        · exact .inr h2
/-- What is told puts right. -/
theorem play_tell {d : Bd} (h : bdP d) {W : List Int} (hW : ∀ m ∈ W, inB m 1 d.stage) : ∀ k, k ≤ W.length → (playS d (tellL W) k).2 = [] ∧ (playS d (tellL W) k).1.tru = d.tru ∧ (playS d (tellL W) k).1.stage = d.stage ∧ (playS d (tellL W) k).1.rx.length = d.rx.length ∧ ∀ (i : Nat) (hi : i < (playS d (tellL W) k).1.rx.length) (hi' : i < d.rx.length), (playS d (tellL W) k).1.rx[i].place = placeS d.tru ((i : Int) + 1) ∨ ((playS d (tellL W) k).1.rx[i].place = d.rx[i].place ∧ ((i : Int) + 1) ∉ W.take k) := by
  intro k
  induction k with
  | zero => intro _; exact ⟨rfl, rfl, rfl, rfl, fun i hi hi' => .inr ⟨rfl, by simp⟩⟩
  | succ k ih =>
    intro hk
    obtain ⟨i1, i2, i3, i4, i5⟩ := ih (by omega)
    have hkW : k < W.length := by omega
    have hkT : k < (tellL W).length := by rw [tellL_len]; exact hkW
    have hinv := (playS_inv (d := d) (l := tellL W) h k).1
    have hat : (tellL W)[k] = tellA W[k] := by simp [tellL]
    have hm := hW W[k] (List.getElem_mem hkW)
    obtain ⟨hm1, hm2⟩ := hm
    obtain ⟨S, hS⟩ : ∃ S, playS d (tellL W) k = S := ⟨_, rfl⟩
    rw [hS] at i1 i2 i3 hinv
    have hdo : doA S.1 (tellA W[k]) = (S.1.b0.put W[k] ⟨placeS S.1.tru W[k], (S.1.b0.at_ W[k]).deaf⟩, true) := doR_5 (b := S.1.b0) (kd := 5) (bl := W[k]) (yy := 0) (cl := ⟨#[]⟩) (show inB W[k] 1 S.1.stage by rw [i3]; exact ⟨hm1, hm2⟩) ⟨rfl, rfl, rfl, rfl⟩
    have hstep : playS d (tellL W) (k + 1) = (S.1.b0.put W[k] ⟨placeS S.1.tru W[k], (S.1.b0.at_ W[k]).deaf⟩, S.2) := by
      rw [playS_do hkT (by rw [hS, hat, hdo]) (by rw [hat]; simp [tellA]), hS, hat, hdo]
    have hlen : (S.1.rx.set (W[k].toNat - 1) ⟨placeS S.1.tru W[k], (S.1.b0.at_ W[k]).deaf⟩).length = d.rx.length := by
      rw [List.length_set]; rw [hS] at i4; exact i4
    rw [hstep]
    refine ⟨i1, i2, i3, hlen, fun i hi hi' => ?_⟩
    have hiS : i < S.1.rx.length := by rw [hS] at i4; omega
    have hset : ∀ hq : i < (S.1.rx.set (W[k].toNat - 1) ⟨placeS S.1.tru W[k], (S.1.b0.at_ W[k]).deaf⟩).length, (S.1.rx.set (W[k].toNat - 1) ⟨placeS S.1.tru W[k], (S.1.b0.at_ W[k]).deaf⟩)[i]'hq = if W[k].toNat - 1 = i then ⟨placeS S.1.tru W[k], (S.1.b0.at_ W[k]).deaf⟩ else S.1.rx[i] := fun hq => List.getElem_set ..
    have hset := congrArg Rgr.place (hset hi)
    by_cases e : W[k].toNat - 1 = i
    · rw [if_pos e] at hset
      left
      refine hset.trans ?_
      show placeS S.1.tru W[k] = _
      rw [i2, show W[k] = (i : Int) + 1 by omega]
    · rw [if_neg e] at hset
      have h5 : S.1.rx[i].place = placeS d.tru ((i : Int) + 1) ∨ (S.1.rx[i].place = d.rx[i].place ∧ ((i : Int) + 1) ∉ W.take k) := by
        have := i5 i (by rw [hS]; exact hiS) hi'
        simpa only [hS] using this
      rcases h5 with h5 | ⟨h5, h6⟩
      · exact .inl (hset.trans h5)
      · refine .inr ⟨hset.trans h5, ?_⟩
        rw [List.take_succ_eq_append_getElem hkW, List.mem_append, List.mem_singleton]
        rintro (h7 | h7)
        · exact h6 h7
        · omega
theorem put_right {d : Bd} (h : bdP d) : inL d.tru (playS d (tellL (wrongTo d.tru d.rx d.rx.length)) (tellL (wrongTo d.tru d.rx d.rx.length)).length).1.rx ∧ (playS d (tellL (wrongTo d.tru d.rx d.rx.length)) (tellL (wrongTo d.tru d.rx d.rx.length)).length).1.tru = d.tru ∧ (playS d (tellL (wrongTo d.tru d.rx d.rx.length)) (tellL (wrongTo d.tru d.rx d.rx.length)).length).1.rx.length = d.rx.length := by
  have hl : (d.rx.length : Int) = d.stage := h.2.2.2.2.1
  obtain ⟨W, hW⟩ : ∃ W, wrongTo d.tru d.rx d.rx.length = W := ⟨_, rfl⟩
  have hmem := fun m => wrongTo_mem (t := d.tru) (l := d.rx) (m := m) d.rx.length (Nat.le_refl _)
  rw [hW] at hmem ⊢
  rw [tellL_len]
  obtain ⟨_, k2, k3, k4, k5⟩ := play_tell h (W := W) (fun m hm => by obtain ⟨i, hi, _, e, _⟩ := (hmem m).1 hm; exact ⟨by omega, by omega⟩) W.length (Nat.le_refl _)
  refine ⟨fun i hi => ?_, k2, k4⟩
  have hi' : i < d.rx.length := by rw [k4] at hi; exact hi
  rcases k5 i hi hi' with e | ⟨e, hn⟩
  · exact e
  · rw [List.take_length] at hn
    rw [e]
    apply Classical.byContradiction
    intro hc
    exact hn ((hmem _).2 ⟨i, hi', hi', rfl, hc⟩)
/-- The row of a band that stands right is the true one. -/
theorem rbI_one {t : ByteArray} {l : List Rgr} {p i : Nat} (s : ByteArray) (h : inL t l) (hr : isRow t) (hs : t.size = l.length) (hp : p < l.length) (hi : i < l.length) (e : bat t p = 49 + i) : ∀ k, k ≤ l.length → rbI l ((p : Int) + 1) s k = if i < k then s ++ numS (i + 1) else s := by
  have hpl : ∀ j (hj : j < l.length), l[j].place = (p : Int) + 1 ↔ j = i := by
    intro j hj
    rw [h j hj]
    constructor
    · intro hq
      obtain ⟨q, hq1, hq2⟩ := hr.hit (v := 49 + j) (by omega) (by omega)
      have := hr.place hq1
      rw [hq2, show (49 : Int) + j - 48 = (j : Int) + 1 by omega] at this
      have hqp : q = p := by omega
      subst hqp
      omega
    · rintro rfl
      have := hr.place (i := p) (by omega)
      rw [e, show (49 : Int) + j - 48 = (j : Int) + 1 by omega] at this
      exact this
  intro k
  induction k with
  | zero => intro _; simp [rbI]
  | succ k ih =>
    intro hk
    have ih := ih (by omega)
    by_cases hq : k = i
    · rw [rbI_y (by omega) ((hpl k (by omega)).2 hq), ih, if_neg (by omega), if_pos (by omega), hq]
    · rw [rbI_n (by omega) (fun x => hq ((hpl k (by omega)).1 x)), ih]
      by_cases hik : i < k
      · rw [if_pos hik, if_pos (by omega)]
      · rw [if_neg hik, if_neg (by omega)]
theorem rbO_in {t : ByteArray} {l : List Rgr} (h : inL t l) (hr : isRow t) (hs : t.size = l.length) : rbO l l.length = t := by
  have h8 := hr.2.1
  have key : ∀ p, p ≤ l.length → (rbO l p).size = p ∧ ∀ i : Nat, i < p → bat (rbO l p) i = bat t i := by
    intro p
    induction p with
    | zero => intro _; exact ⟨rfl, fun i hi => by omega⟩
    | succ p ih =>
      intro hp
      obtain ⟨s1, s2⟩ := ih (by omega)
      have hb := hr.2.2.1 p (by omega)
      obtain ⟨i, hi⟩ : ∃ i : Nat, bat t p = 49 + i := ⟨(bat t p - 49).toNat, by omega⟩
      have hil : i < l.length := by omega
      have e := rbI_one (rbO l p) h hr hs (p := p) (i := i) (by omega) hil hi l.length (Nat.le_refl _)
      rw [if_pos hil] at e
      have hnum : numS (i + 1) = mkS [((49 + i : Nat) : Int)] := by
        rw [numS_small (by omega)]
        show (⟨#[UInt8.ofNat (48 + (i + 1))]⟩ : ByteArray) = ⟨[UInt8.ofNat (((49 + i : Nat) : Int).toNat)].toArray⟩
        rw [Int.toNat_natCast, show 48 + (i + 1) = 49 + i by omega]
      have hns : (numS (i + 1)).size = 1 := by rw [hnum, size_mkS]; rfl
      simp only [rbO]
      rw [e]
      refine ⟨by rw [size_app, s1, hns], fun j hj => ?_⟩
      by_cases hjp : j < p
      · rw [bat_append_l _ _ j (by rw [s1]; exact hjp)]; exact s2 j hjp
      · have hjp : j = p := by omega
        subst hjp
        have := bat_append_r (rbO l j) (numS (i + 1)) 0
        simp only [s1, Nat.add_zero] at this
        rw [this, hnum, hi]
        have h0 := bat_mkS [((49 + i : Nat) : Int)] 0 (by simp) (by simp; omega) (by simp; omega)
        rw [show ((0 : Nat) : Int) = ((0 : Nat) : Int) from rfl, h0]
        simp
  obtain ⟨k1, k2⟩ := key l.length (Nat.le_refl _)
  exact str_ext (by rw [k1, hs]) (fun i hi => k2 i (by rw [k1] at hi; exact hi))
/-- The band behind one more action, and its rows. -/
noncomputable def playF (s : Bd × List ByteArray) (a : Act_) : Bd × List ByteArray := if (doA s.1 a).2 = true then ((doA s.1 a).1, if a.kind = 1 then s.2 ++ [rbO s.1.rx s.1.rx.length] else s.2) else s
/-- A step; a call. -/
def stepA : Act_ := ⟨1, 0, 0, ⟨#[]⟩⟩
def callA (c : ByteArray) : Act_ := ⟨2, 0, 0, c⟩
/-- The actions of the first k calls of a touch, with n changes a lead. -/
def actsTo (t : ByteArray) (n : Nat) : Nat → List Act_
  | 0 => []
  | k + 1 => actsTo t n k ++ (callA (callOf (bat t k)) :: List.replicate n stepA)
def actsL (t : ByteArray) (n : Nat) : List Act_ := actsTo t n t.size
/-- A band of a method that stands right, where everyone hears. -/
structure Fine (n : Nat) (x : List ByteArray) (b s : ByteArray) (d : Bd) : Prop where
  ok : bdP d
  st : d.stage = (n : Int)
  x : d.x = x
  b : d.bob = b
  s : d.sing = s
  inl : inL d.tru d.rx
  calm : calmL d.rx
theorem Fine.row {n : Nat} {x : List ByteArray} {b s : ByteArray} {d : Bd} (h : Fine n x b s d) : rbO d.rx d.rx.length = d.tru := by
  have hl : (d.rx.length : Int) = d.stage := h.ok.2.2.2.2.1
  have ht : (d.tru.size : Int) = d.stage := h.ok.2.2.2.1.1
  exact rbO_in h.inl h.ok.2.2.2.1.2 (by omega)
theorem newRs_at {n : Nat} (i : Nat) (hi : i < (newRs n).length) : (newRs n)[i] = ⟨(i : Int) + 1, false⟩ := by simp [newRs]
/-- A new band. -/
def newD0 (m : Mth) (b s : ByteArray) : Bd := ⟨m.name, m.stage, m.x, b, s, 0, pS, roundsS m.stage, newRs m.stage.toNat⟩
theorem newD0_ok {m : Mth} {b s : ByteArray} (h : callsP m b s) : bdP (newD0 m b s) := by
  have hst := h.1.2.stage
  have h3 := hst.1
  have h8 := hst.2
  have hx := h.1.2.1.1
  obtain ⟨r1, r2⟩ := row_rounds (n := m.stage.toNat) (by omega) (by omega)
  have hn : ((m.stage.toNat : Nat) : Int) = m.stage := by omega
  rw [hn] at r1 r2
  refine ⟨⟨h.1, h.2⟩, ⟨Int.le_refl _, by show (0 : Int) ≤ (m.x.length : Int) - 1; omega⟩, pS_call, ⟨by show ((roundsS m.stage).size : Int) = m.stage; omega, r1⟩, by show ((newRs m.stage.toNat).length : Int) = m.stage; rw [newRs_len]; omega, fun i hi => ?_⟩
  have hi9 : i < (newRs m.stage.toNat).length := hi
  show inB ((newRs m.stage.toNat)[i]'hi9).place 1 m.stage
  have hi' : i < m.stage.toNat := by rw [newRs_len] at hi9; exact hi9
  rw [newRs_at i hi9]
  exact ⟨by simp; omega, by simp; omega⟩
end Go.Proofs.YtkegbbndmfnolaaGreatDoor

/-
  Drawn bands and actions.
-/
namespace Go.Proofs.YtkegbbndmfnolaaGreatDoor
open Go.RowKit
set_option linter.unusedVariables false
set_option linter.unusedSimpArgs false
set_option maxRecDepth 100000

theorem Cells.turn {g n gc : Nat} {f : Nat → Value} {w w' : World} (h : Cells w gc n f) (ht : Turn g w w') (hne : gc < g ∨ g + 1 ≤ gc) : Cells w' gc n f := h.chg ht hne
theorem OwnL.turn {α : Type} {enc : α → List Value} {w w' : World} {lo hi g size : Nat} {A : Option Addr} {l : List α} (h : OwnL w lo hi A size enc l) (ht : Turn g w w') (hne : hi ≤ g ∨ g + 1 ≤ lo) : OwnL w' lo hi A size enc l := h.chg ht (by omega)
theorem BdAt.turn {d : Bd} {v : Value} {lo hi g : Nat} {w w' : World} (h : BdAt d v lo hi w) (ht : Turn g w w') (hne : hi ≤ g ∨ g + 1 ≤ lo) : BdAt d v lo hi w' := h.chg ht hne





set_option maxHeartbeats 16000000 in
theorem called_any (g K : Nat) (w : World) (h : Cur w g K) (hK : K ≤ 1000000) :
    Calls Tryz.prog 52 #[.pointer (some ⟨g, 0, none⟩)] w fun e w' => ∃ nm n x A c b s, e = .returned (.tuple #[.agg #[Value.string nm, .int .i64 n, .slice A x.length c], .agg #[.string b, .string s]]) ∧ MthOk nm n x ∧ x.length ≤ c ∧ changeP n b ∧ changeP n s ∧ OwnL w' w.heap.size w'.heap.size A 1 encString x ∧ Cur w' g (K + 110) ∧ Turn g w w' := by
  have H := Lib.hid h
  have hgw := h.lt
  clear h
  obtain ⟨W0, hWe, hWs, hWb, hR, hQ⟩ : ∃ W0 : World, Hid (((w.alloc (.cells #[Value.string ⟨#[]⟩, .int .i64 0, .slice none 0 0] 26)).alloc (.cells #[Value.string ⟨#[]⟩, .string ⟨#[]⟩] 28)) = W0) ∧ Hid (W0.heap.size = w.heap.size + 2) ∧ Hid (Below w.heap.size w W0) ∧ Hid (Cells W0 w.heap.size 3 (fun i => (#[Value.string ⟨#[]⟩, .int .i64 0, .slice none 0 0] : Array Value).getD i undef)) ∧ Hid (Cells W0 (w.heap.size + 1) 2 (fun i => (#[Value.string ⟨#[]⟩, .string ⟨#[]⟩] : Array Value).getD i undef)) := by
    have z1 : w.heap.size + 1 = (w.alloc (.cells #[Value.string ⟨#[]⟩, .int .i64 0, .slice none 0 0] 26)).heap.size := by simp
    refine ⟨_, Lib.hid rfl, Lib.hid (by simp), Lib.hid (((Below.refl _ _).alloc (Nat.le_refl _) _).alloc (by simp) _), Lib.hid ?_, Lib.hid ?_⟩
    · exact (Cells.newD _ #[Value.string ⟨#[]⟩, .int .i64 0, .slice none 0 0] _).alloc _
    · rw [z1]; exact Cells.newD _ #[Value.string ⟨#[]⟩, .string ⟨#[]⟩] _
  have hWs1 : w.heap.size + 2 = W0.heap.size := hWs.out.symm
  have HC0 := Lib.hid (H.out.later hWb.out)
  go_enter Tryz.func52, Tryz.ntmps52
  go_upto_region 1 with fail
  rw [hWe.out]
  clear hWe
  go_upto_region 2 with (go_at_call 106; refine (method_any g K W0 HC0.out (by omega)).mono ?_; rintro e w1 ⟨nm, n, x, A, c, rfl, hok, hxc, ho, hc, ht⟩; have HOK := Lib.hid hok; have HO1 := Lib.hid ho; have HC1 := Lib.hid hc; have HT1 := Lib.hid ht; have hz1 := ht.size; clear hok ho hc ht)
  have hn3 := HOK.out.n3
  have hn6 := HOK.out.n6
  obtain ⟨V, hVe, hVb, m0, m1, m2, hVs⟩ : ∃ V : World, Hid (w1.alloc (.cells #[Value.string nm, .int .i64 n, .slice A x.length c] 26) = V) ∧ Hid (Below w1.heap.size w1 V) ∧ V.cell? ⟨w1.heap.size, 0, none⟩ = some (.string nm) ∧ V.cell? ⟨w1.heap.size, 1, none⟩ = some (.int .i64 n) ∧ V.cell? ⟨w1.heap.size, 2, none⟩ = some (.slice A x.length c) ∧ w1.heap.size < V.heap.size :=
    ⟨_, Lib.hid rfl, Lib.hid ((Below.refl _ _).alloc (Nat.le_refl _) _), by rw [World.cell?_alloc_new]; rfl, by rw [World.cell?_alloc_new]; rfl, by rw [World.cell?_alloc_new]; rfl, by simp⟩
  rw [hVe.out]
  clear hVe
  obtain ⟨bm, hbm⟩ : ∃ bm, Hid (w1.heap.size = bm) := ⟨_, Lib.hid rfl⟩
  rw [hbm.out] at m0 m1 m2 hVs ⊢
  have hgm : g < bm := by have := hbm.out; omega
  have hbe := hbm.out
  have HCV := Lib.hid (HC1.out.later hVb.out)
  have HTV := Lib.hid (HT1.out.then hVb.out)
  have HOV := Lib.hid (HO1.out.later hVb.out)
  have HRV := Lib.hid ((hR.out.turn HT1.out (by omega)).later hVb.out)
  have HQV := Lib.hid ((hQ.out.turn HT1.out (by omega)).later hVb.out)
  have HX : Hid (∀ (W0 W : World) (K' : Nat), Cur W0 g K' → K' ≤ 10000000 → Below W0.heap.size W0 W → Calls Tryz.prog 107 #[.pointer (some ⟨g, 0, none⟩), .int .i64 n] W fun e w' => ∃ v, e = .returned v ∧ ∃ s : ByteArray, v = .string s ∧ changeP n s ∧ Cur w' g (K' + 2) ∧ Turn g W0 w') := Lib.hid (fun W0 W K' hc hk hb => by
    have hca := change_any g K' n.toNat W (hc.later hb) (by omega) (by omega) (by omega)
    rw [show ((n.toNat : Nat) : Int) = n by omega] at hca
    exact hca.mono fun e w' ⟨s, he, hs, hc, ht⟩ => ⟨_, he, s, rfl, hs, hc, (Turn.of hb).trans ht⟩)
  have HX1 := Lib.hid (fun W hb => HX.out V W (K + 100) HCV.out (by omega) hb)
  clear HC1 HO1 HC0
  go_region_law (first
    | (refine step_callsX (by rfl) 107 (by rfl) #[.pointer (some ⟨g, 0, none⟩), .int .i64 n] (by go_simp) (HX1.out _ (by repeat (first | exact Below.refl _ _ | refine Below.drew ?_ | refine Below.alloc ?_ (Nat.le_refl _) _))) ?_; rintro v wA ⟨s1, rfl, hs1, hcA, htA⟩; have Hs1 := Lib.hid hs1; have HCA := Lib.hid hcA; have HTA := Lib.hid htA; have hzA := htA.size; have hsA : bm < wA.heap.size := (by omega); have n0 := (htA.cell (p := ⟨bm, 0, none⟩) hVs (by simp; omega)).trans m0; have n1 := (htA.cell (p := ⟨bm, 1, none⟩) hVs (by simp; omega)).trans m1; have n2 := (htA.cell (p := ⟨bm, 2, none⟩) hVs (by simp; omega)).trans m2; have HX2 := Lib.hid (fun W hb => HX.out wA W (K + 102) hcA (by omega) hb); clear hs1 hcA htA HX1)
    | (refine step_callsX (by rfl) 107 (by rfl) #[.pointer (some ⟨g, 0, none⟩), .int .i64 n] (by go_simp) (HX2.out _ (by repeat (first | exact Below.refl _ _ | refine Below.drew ?_ | refine Below.alloc ?_ (Nat.le_refl _) _))) ?_; rintro v wB ⟨s2, rfl, hs2, hcB, htB⟩; have Hs2 := Lib.hid hs2; have HCB := Lib.hid hcB; have HTB := Lib.hid htB; have hzB := htB.size; have hsB : bm < wB.heap.size := (by omega); have k0 := (htB.cell (p := ⟨bm, 0, none⟩) hsA (by simp; omega)).trans n0; have k1 := (htB.cell (p := ⟨bm, 1, none⟩) hsA (by simp; omega)).trans n1; have k2 := (htB.cell (p := ⟨bm, 2, none⟩) hsA (by simp; omega)).trans n2; have hRB := (HRV.out.turn HTA.out (by omega)).turn htB (by omega); have hQB := (HQV.out.turn HTA.out (by omega)).turn htB (by omega); have r0 := hRB.cell (i := 0) (by omega); have r1 := hRB.cell (i := 1) (by omega); have r2 := hRB.cell (i := 2) (by omega); have rf0 := hRB.free (i := 0) (by omega); have rf1 := hRB.free (i := 1) (by omega); have rf2 := hRB.free (i := 2) (by omega); have q0 := hQB.cell (i := 0) (by omega); have q1 := hQB.cell (i := 1) (by omega); have qf0 := hQB.free (i := 0) (by omega); have qf1 := hQB.free (i := 1) (by omega); clear hs2 hcB htB HX2 hRB hQB))
  all_goals
    clear m0 m1 m2 n0 n1 n2
    go_wp2
    refine bodyPost_ret (v := .tuple #[.agg #[Value.string nm, .int .i64 n, .slice A x.length c], .agg #[.string s1, .string s2]]) (by simp [results, Tryz.results52, go_sem, r0, r1, r2, rf0, rf1, rf2, q0, q1, qf0, qf1]) rfl ?_
    refine ⟨nm, n, x, A, c, s1, s2, rfl, HOK.out, hxc, Hs1.out, Hs2.out, ?_⟩
    clear r0 r1 r2 rf0 rf1 rf2 q0 q1 qf0 qf1 k0 k1 k2
    have kk : ∀ w9, Chg w.heap.size (w.heap.size + 2) wB w9 → OwnL w9 w.heap.size w9.heap.size A 1 encString x ∧ Cur w9 g (K + 110) ∧ Turn g w w9 := fun w9 kc => by
      have kb : Below w.heap.size wB w9 := Below.chg (Below.refl _ _) kc (Nat.le_refl _) (by omega)
      refine ⟨((((HOV.out.turn HTA.out (by omega)).turn HTB.out (by omega)).chg kc (.inr (by omega))).mono (by omega) (Nat.le_trans (by omega) kc.size)), (HCB.out.keep kb hgw).more (by omega), ((((Turn.of hWb.out).trans HTV.out).trans HTA.out).trans HTB.out).thenB kb⟩
    refine kk _ ?_
    repeat (first | (with_reducible exact Chg.refl _ _ _) | (with_reducible refine Chg.setCell ?_ (by simp) (by simp) _))



set_option maxHeartbeats 3200000 in
theorem ringAct_any (g K n : Nat) (w : World) (h : Cur w g K) (hK : K ≤ 1000000) (hn : 3 ≤ n ∧ n ≤ 8) :
    Calls Tryz.prog 76 #[.pointer (some ⟨g, 0, none⟩), .int .i64 (n : Int)] w fun e w' => ∃ a : Act_, e = .returned (.agg #[.int .i64 a.kind, .int .i64 a.bell, .int .i64 a.by_, .string a.call]) ∧ Cur w' g (K + 8) ∧ Turn g w w' := by
  have H := Lib.hid h
  have hgw := h.lt
  clear h
  obtain ⟨hn3, hn8⟩ := hn
  obtain ⟨W0, hWe, hWs, hWb, hR⟩ : ∃ W0 : World, Hid (w.alloc (.cells #[Value.int .i64 0, .int .i64 0, .int .i64 0, .string ⟨#[]⟩] 45) = W0) ∧ Hid (W0.heap.size = w.heap.size + 1) ∧ Hid (Below w.heap.size w W0) ∧ Hid (Cells W0 w.heap.size 4 (fun i => (#[Value.int .i64 0, .int .i64 0, .int .i64 0, .string ⟨#[]⟩] : Array Value).getD i undef)) :=
    ⟨_, Lib.hid rfl, Lib.hid (by simp), Lib.hid ((Below.refl _ _).alloc (Nat.le_refl _) _), Lib.hid (Cells.newD _ #[Value.int .i64 0, .int .i64 0, .int .i64 0, .string ⟨#[]⟩] _)⟩
  have hWs1 : w.heap.size + 1 = W0.heap.size := hWs.out.symm
  have HC0 := Lib.hid (H.out.later hWb.out)
  have wn : IntKind.i64.wrap ((n : Int) + 1) = (n : Int) + 1 := IntWalk.i64_in _ (by omega)
  go_enter Tryz.func76, Tryz.ntmps76
  go_upto_region 1 with fail
  rw [hWe.out]
  clear hWe
  go_upto_region 2 with (go_at_call 53; refine (pick_any g K 12 W0 HC0.out (by omega) (by omega)).mono ?_; rintro e w1 ⟨x, rfl, hx0, hx1, hc1, ht1⟩; have HC1 := Lib.hid hc1; have HT1 := Lib.hid ht1; have hz1 := ht1.size; clear hc1 ht1)
  by_cases x0 : x = 0
  · have d0 : (x == (0 : Int)) = true := by simpa using x0
    have HBl : Hid (Below w1.heap.size w1 (w1.alloc (.cells #[.string ⟨#[112]⟩, .string ⟨#[98]⟩, .string ⟨#[115]⟩, .string ⟨#[98]⟩, .string ⟨#[120]⟩] 9))) := Lib.hid ((Below.refl _ _).alloc (Nat.le_refl _) _)
    go_wp2_with (go_at_call 54; refine (of_any g (K + 2) w1.heap.size 5 5 _ (fun s => True) _ (HC1.out.later ((Below.refl _ _).alloc (Nat.le_refl _) _)) (by omega) (by omega) (by omega) (Cells.lit w1 _ _ 5 rfl) (by have := HC1.out.lt; omega) (by intro k hk; rcases k with _ | _ | _ | _ | _ | k <;> first | exact ⟨_, rfl, trivial⟩ | omega)).mono ?_; rintro e w2 ⟨s, rfl, _, hc2, ht2⟩; have HC2 := Lib.hid hc2; have HT2 := Lib.hid ((HT1.out.then ((Below.refl _ _).alloc (Nat.le_refl _) _)).trans ht2); have hz2 := ht2.size; clear hc2 ht2; have hRx := hR.out.turn HT2.out (by omega); have r0 := hRx.cell (i := 0) (by omega); have r1 := hRx.cell (i := 1) (by omega); have r2 := hRx.cell (i := 2) (by omega); have r3 := hRx.cell (i := 3) (by omega); have rf0 := hRx.free (i := 0) (by omega); have rf1 := hRx.free (i := 1) (by omega); have rf2 := hRx.free (i := 2) (by omega); have rf3 := hRx.free (i := 3) (by omega); clear hRx)
    have hz2' := HT2.out.size
    have kk : Chg w.heap.size (w.heap.size + 1) w2 (setN w2 w.heap.size 0 [Value.int .i64 2, .int .i64 0, .int .i64 0, .string s]) := Chg.setN (Nat.le_refl _) (Nat.lt_succ_self _) _ (Chg.refl _ _ w2)
    have kb : Below w.heap.size w2 (setN w2 w.heap.size 0 [Value.int .i64 2, .int .i64 0, .int .i64 0, .string s]) := Below.chg (Below.refl _ _) kk (Nat.le_refl _) (by omega)
    refine bodyPost_ret (v := .agg #[.int .i64 2, .int .i64 0, .int .i64 0, .string s]) (by simp [results, Tryz.results76, go_sem, r0, r1, r2, r3, rf0, rf1, rf2, rf3]) rfl ?_
    exact ⟨⟨2, 0, 0, s⟩, rfl, (HC2.out.keep kb hgw).more (by omega), ((Turn.of hWb.out).trans HT2.out).thenB kb⟩
  have d0 : (x == (0 : Int)) = false := by simpa using x0
  by_cases x1 : x = 1
  · have d1 : (x == (1 : Int)) = true := by simpa using x1
    go_wp2_with (go_at_call 53; refine (pick_any g (K + 2) ((n : Int)) w1 HC1.out (by omega) (by omega)).mono ?_; rintro e w2 ⟨y, rfl, hy0, hy1, hc2, ht2⟩; have HC2 := Lib.hid hc2; have HT2 := Lib.hid (HT1.out.trans ht2); have hz2 := ht2.size; have wy : IntKind.i64.wrap ((1 : Int) + y) = 1 + y := IntWalk.i64_in _ (by omega); clear hc2 ht2; have hRx := hR.out.turn HT2.out (by omega); have r0 := hRx.cell (i := 0) (by omega); have r1 := hRx.cell (i := 1) (by omega); have r2 := hRx.cell (i := 2) (by omega); have r3 := hRx.cell (i := 3) (by omega); have rf0 := hRx.free (i := 0) (by omega); have rf1 := hRx.free (i := 1) (by omega); have rf2 := hRx.free (i := 2) (by omega); have rf3 := hRx.free (i := 3) (by omega); clear hRx)
    have kk : Chg w.heap.size (w.heap.size + 1) w2 (setN w2 w.heap.size 0 [Value.int .i64 3, .int .i64 (1 + y), .int .i64 0, .string ⟨#[]⟩]) := Chg.setN (Nat.le_refl _) (Nat.lt_succ_self _) _ (Chg.refl _ _ w2)
    have kb : Below w.heap.size w2 (setN w2 w.heap.size 0 [Value.int .i64 3, .int .i64 (1 + y), .int .i64 0, .string ⟨#[]⟩]) := Below.chg (Below.refl _ _) kk (Nat.le_refl _) (by omega)
    refine bodyPost_ret (v := .agg #[.int .i64 3, .int .i64 (1 + y), .int .i64 0, .string ⟨#[]⟩]) (by simp [results, Tryz.results76, go_sem, r0, r1, r2, r3, rf0, rf1, rf2, rf3]) rfl ?_
    exact ⟨⟨3, (1 + y), 0, ⟨#[]⟩⟩, rfl, (HC2.out.keep kb hgw).more (by omega), ((Turn.of hWb.out).trans HT2.out).thenB kb⟩
  have d1 : (x == (1 : Int)) = false := by simpa using x1
  by_cases x2 : x = 2
  · have d2 : (x == (2 : Int)) = true := by simpa using x2
    go_wp2_with (first
      | (go_at_call 53; refine (pick_any g (K + 2) ((n : Int)) w1 HC1.out (by omega) (by omega)).mono ?_; rintro e w2 ⟨y, rfl, hy0, hy1, hc2, ht2⟩; have HC2 := Lib.hid hc2; have HT2 := Lib.hid (HT1.out.trans ht2); have hz2 := ht2.size; have wy : IntKind.i64.wrap ((1 : Int) + y) = 1 + y := IntWalk.i64_in _ (by omega); clear hc2 ht2; skip)
      | (go_at_call 77; refine (among_any g (K + 4) w2.heap.size 5 5 _ (fun s => True) _ (HC2.out.later ((Below.refl _ _).alloc (Nat.le_refl _) _)) (by omega) (by omega) (by omega) (Cells.lit w2 _ _ 5 rfl) (by have := HC2.out.lt; omega) (by intro k hk; rcases k with _ | _ | _ | _ | _ | k <;> first | exact ⟨_, rfl, trivial⟩ | omega)).mono ?_; rintro e w3 ⟨z, rfl, _, hc3, ht3⟩; have HC3 := Lib.hid hc3; have HT3 := Lib.hid ((HT2.out.then ((Below.refl _ _).alloc (Nat.le_refl _) _)).trans ht3); have hz3 := ht3.size; clear hc3 ht3; have hRx := hR.out.turn HT3.out (by omega); have r0 := hRx.cell (i := 0) (by omega); have r1 := hRx.cell (i := 1) (by omega); have r2 := hRx.cell (i := 2) (by omega); have r3 := hRx.cell (i := 3) (by omega); have rf0 := hRx.free (i := 0) (by omega); have rf1 := hRx.free (i := 1) (by omega); have rf2 := hRx.free (i := 2) (by omega); have rf3 := hRx.free (i := 3) (by omega); clear hRx))
    have hz3' := HT3.out.size
    have kk : Chg w.heap.size (w.heap.size + 1) w3 (setN w3 w.heap.size 0 [Value.int .i64 4, .int .i64 (1 + y), .int .i64 z, .string ⟨#[]⟩]) := Chg.setN (Nat.le_refl _) (Nat.lt_succ_self _) _ (Chg.refl _ _ w3)
    have kb : Below w.heap.size w3 (setN w3 w.heap.size 0 [Value.int .i64 4, .int .i64 (1 + y), .int .i64 z, .string ⟨#[]⟩]) := Below.chg (Below.refl _ _) kk (Nat.le_refl _) (by omega)
    refine bodyPost_ret (v := .agg #[.int .i64 4, .int .i64 (1 + y), .int .i64 z, .string ⟨#[]⟩]) (by simp [results, Tryz.results76, go_sem, r0, r1, r2, r3, rf0, rf1, rf2, rf3]) rfl ?_
    exact ⟨⟨4, (1 + y), z, ⟨#[]⟩⟩, rfl, (HC3.out.keep kb hgw).more (by omega), ((Turn.of hWb.out).trans HT3.out).thenB kb⟩
  have d2 : (x == (2 : Int)) = false := by simpa using x2
  by_cases x3 : x = 3
  · have d3 : (x == (3 : Int)) = true := by simpa using x3
    go_wp2_with (go_at_call 53; refine (pick_any g (K + 2) (((n : Int) + 1)) w1 HC1.out (by omega) (by omega)).mono ?_; rintro e w2 ⟨y, rfl, hy0, hy1, hc2, ht2⟩; have HC2 := Lib.hid hc2; have HT2 := Lib.hid (HT1.out.trans ht2); have hz2 := ht2.size; have wy : IntKind.i64.wrap ((1 : Int) + y) = 1 + y := IntWalk.i64_in _ (by omega); clear hc2 ht2; have hRx := hR.out.turn HT2.out (by omega); have r0 := hRx.cell (i := 0) (by omega); have r1 := hRx.cell (i := 1) (by omega); have r2 := hRx.cell (i := 2) (by omega); have r3 := hRx.cell (i := 3) (by omega); have rf0 := hRx.free (i := 0) (by omega); have rf1 := hRx.free (i := 1) (by omega); have rf2 := hRx.free (i := 2) (by omega); have rf3 := hRx.free (i := 3) (by omega); clear hRx)
    have kk : Chg w.heap.size (w.heap.size + 1) w2 (setN w2 w.heap.size 0 [Value.int .i64 5, .int .i64 y, .int .i64 0, .string ⟨#[]⟩]) := Chg.setN (Nat.le_refl _) (Nat.lt_succ_self _) _ (Chg.refl _ _ w2)
    have kb : Below w.heap.size w2 (setN w2 w.heap.size 0 [Value.int .i64 5, .int .i64 y, .int .i64 0, .string ⟨#[]⟩]) := Below.chg (Below.refl _ _) kk (Nat.le_refl _) (by omega)
    refine bodyPost_ret (v := .agg #[.int .i64 5, .int .i64 y, .int .i64 0, .string ⟨#[]⟩]) (by simp [results, Tryz.results76, go_sem, r0, r1, r2, r3, rf0, rf1, rf2, rf3]) rfl ?_
    exact ⟨⟨5, y, 0, ⟨#[]⟩⟩, rfl, (HC2.out.keep kb hgw).more (by omega), ((Turn.of hWb.out).trans HT2.out).thenB kb⟩
  have d3 : (x == (3 : Int)) = false := by simpa using x3
  have hRx := hR.out.turn HT1.out (by omega); have r0 := hRx.cell (i := 0) (by omega); have r1 := hRx.cell (i := 1) (by omega); have r2 := hRx.cell (i := 2) (by omega); have r3 := hRx.cell (i := 3) (by omega); have rf0 := hRx.free (i := 0) (by omega); have rf1 := hRx.free (i := 1) (by omega); have rf2 := hRx.free (i := 2) (by omega); have rf3 := hRx.free (i := 3) (by omega); clear hRx
  go_wp2
  have kk : Chg w.heap.size (w.heap.size + 1) w1 (setN w1 w.heap.size 0 [Value.int .i64 1, .int .i64 0, .int .i64 0, .string ⟨#[]⟩]) := Chg.setN (Nat.le_refl _) (Nat.lt_succ_self _) _ (Chg.refl _ _ w1)
  have kb : Below w.heap.size w1 (setN w1 w.heap.size 0 [Value.int .i64 1, .int .i64 0, .int .i64 0, .string ⟨#[]⟩]) := Below.chg (Below.refl _ _) kk (Nat.le_refl _) (by omega)
  refine bodyPost_ret (v := .agg #[.int .i64 1, .int .i64 0, .int .i64 0, .string ⟨#[]⟩]) (by simp [results, Tryz.results76, go_sem, r0, r1, r2, r3, rf0, rf1, rf2, rf3]) rfl ?_
  exact ⟨⟨1, 0, 0, ⟨#[]⟩⟩, rfl, (HC1.out.keep kb hgw).more (by omega), ((Turn.of hWb.out).trans HT1.out).thenB kb⟩
set_option maxHeartbeats 3200000 in
theorem ringActs_any (g K n m : Nat) (w : World) (h : Cur w g K) (hK : K ≤ 100000) (hn : 3 ≤ n ∧ n ≤ 8) (hm : m ≤ 60) :
    Calls Tryz.prog 67 #[.pointer (some ⟨g, 0, none⟩), .int .i64 (n : Int), .int .i64 (m : Int)] w fun e w' => ∃ (l : List Act_) (A : Option Addr) (c : Nat), e = .returned (.slice A l.length c) ∧ l.length ≤ m ∧ OwnL w' w.heap.size w'.heap.size A 4 Act_.enc l ∧ Cur w' g (K + 1000) ∧ Turn g w w' := by
  have H := Lib.hid h
  have hgw := h.lt
  have Hone : Hid (∀ (a b d : Int) (s : ByteArray), ∀ u ∈ [Value.int .i64 a, .int .i64 b, .int .i64 d, .string s], u.oneCell' = true) := Lib.hid (by intro a b d s u hu; simp at hu; rcases hu with rfl | rfl | rfl | rfl <;> rfl)
  clear h
  have wm : IntKind.i64.wrap ((m : Int) + 1) = (m : Int) + 1 := IntWalk.i64_in _ (by omega)
  obtain ⟨g0, hg0⟩ : ∃ g0, Hid (w.heap.size = g0) := ⟨_, Lib.hid rfl⟩
  have hg0e := hg0.out
  go_enter Tryz.func67, Tryz.ntmps67
  go_upto_region 3 with (go_at_call 53; refine (pick_any g K ((m : Int) + 1) w H.out (by omega) (by omega)).mono ?_; rintro e w1 ⟨x, rfl, hx0, hx1, hc1, ht1⟩; have HC1 := Lib.hid hc1; have HT1 := Lib.hid ht1; have hz1 := ht1.size; clear hc1 ht1; obtain ⟨q, rfl⟩ : ∃ q : Nat, x = (q : Int) := ⟨x.toNat, by omega⟩)
  go_loopw [7, 8] (fun v i wr => ∃ (j : Nat) (l : List Act_), i = .int .i64 (j : Int) ∧ l.length + j ≤ m ∧ Grow wr g0 45 4 Act_.enc v l ∧ Cur wr g (K + 2 + 8 * l.length) ∧ Turn g w wr) (fun _ i _ => (intOf i).toNat)
  case atStart => exact ⟨q, [], rfl, by simp; omega, Grow.nil, HC1.out.more (by simp), HT1.out⟩
  case round =>
    obtain ⟨j, l, rfl, hj, hgr, hcu, htu⟩ := hrel
    have HG := Lib.hid hgr
    have HCu := Lib.hid hcu
    have HTu := Lib.hid htu
    have hzr := htu.size
    clear hgr hcu htu
    by_cases hlt : 0 < j
    · go_wp2_with (first
        | (go_at_call 76; refine (ringAct_any g _ n wr HCu.out (by omega) ⟨hn.1, hn.2⟩).mono ?_; rintro e w4 ⟨a, rfl, hc4, ht4⟩; have HC4 := Lib.hid hc4; have HT4 := Lib.hid (HTu.out.trans ht4); have hz4 := ht4.size; have HG4 := Lib.hid (HG.out.turn ht4 (by omega)); clear hc4 ht4)
        | (at_builtin; refine wpList_push rfl (.tmp 17) (.tmp 21) 37 rfl g0 45 _ 4 40 Act_.enc rfl RingAct_info rfl (by omega) _ l [a] 1 rfl rfl (by simp) HG4.out rfl Act__enc_len (Hone.out _ _ _ _) (by simp only [List.length_singleton]; omega) (by omega) (by omega) ?_; intro v5 w5 g5 b5 gb5; have HG5 := Lib.hid g5; have HB5 := Lib.hid b5; clear g5 b5 gb5))
      go_roundw
      case rel => exact ⟨j - 1, l ++ [a], by go_num, by simp; omega, HG5.out, (HC4.out.keep HB5.out (by omega)).more (by simp; omega), HT4.out.thenB (HB5.out.mono (by omega))⟩
      case measure => simp [intOf]; omega
    · obtain rfl : j = 0 := by omega
      obtain ⟨A5, c5, rfl, ho5⟩ := HG.out.own Act__enc_len
      have HO5 := Lib.hid ho5
      clear ho5
      go_wp2
      go_ret
      exact ⟨l, A5, c5, rfl, by omega, HO5.out.mono (by omega) (Nat.le_refl _), HCu.out.more (by omega), HTu.out⟩
end Go.Proofs.YtkegbbndmfnolaaGreatDoor
