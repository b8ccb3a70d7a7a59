import Derived.Test.YtglnehinmdmgmaaGreatMErrorsL00
import Derived.Test.YtglnehinmdmgmaaGreatMErrorsL01
/-
  Contracts: valid changes (both sides).
-/
namespace Go.Proofs.YtglnehinmdmgmaaGreat
open Go.RowKit
set_option linter.unusedVariables false
set_option linter.unusedSimpArgs false
set_option maxRecDepth 100000

def dash : ByteArray := ⟨#[45]⟩
/-- The place that byte i tells; the one ahead of it (none: 0). -/
def dg (c : ByteArray) (i : Nat) : Int := bat c i - 48
def dgP (c : ByteArray) : Nat → Int
  | 0 => 0
  | i + 1 => dg c i
def stepP (n : Int) (c : ByteArray) (i : Nat) : Prop := dgP c i < dg c i ∧ dg c i ≤ n ∧ (dg c i - dgP c i) % 2 ≠ 0
def chainP (n : Int) (c : ByteArray) : Prop := (∀ i, i < c.size → stepP n c i) ∧ (n - dgP c c.size) % 2 = 0
def changeP (n : Int) (c : ByteArray) : Prop := inB n 3 8 ∧ ((c = dash ∧ n % 2 = 0) ∨ (c ≠ dash ∧ 0 < c.size ∧ (c.size : Int) ≤ n - 2 ∧ chainP n c))
theorem dash_size : dash.size = 1 := rfl
theorem size_zero {c : ByteArray} (h : c.size = 0) : c = ⟨#[]⟩ := by
  apply ByteArray.ext
  exact Array.eq_empty_of_size_eq_zero h
theorem toList_len (c : ByteArray) : c.toList.length = c.size := by rw [ByteArray.toList_eq]; simp
theorem toList_ne {c : ByteArray} (h : 0 < c.size) : ¬ c.toList = [] := fun e => by have := toList_len c; rw [e] at this; simp at this; omega
theorem toList_isEmpty {c : ByteArray} (h : 0 < c.size) : c.toList.isEmpty = false := by
  have := toList_ne h
  cases hc : c.toList with
  | nil => exact absurd hc this
  | cons _ _ => rfl
theorem toList_dash {c : ByteArray} (h : ¬ c = dash) : (c.toList == [45]) = false := by
  rw [beq_eq_false_iff_ne]
  intro e
  apply h
  apply toList_inj.1
  rw [e, ByteArray.toList_eq]; rfl
theorem steps_bound {n : Int} {c : ByteArray} : ∀ k, (∀ j, j < k → stepP n c j) → 0 ≤ dgP c k ∧ (0 < k → dgP c k ≤ n)
  | 0, _ => by simp [dgP]
  | k + 1, h => by
    have ih := steps_bound k (fun j hj => h j (by omega))
    obtain ⟨h1, h2, _⟩ := h k (by omega)
    simp only [dgP]
    omega
set_option maxHeartbeats 1600000 in
theorem l2Change_any (n : Int) (c : ByteArray) (w : World) (hc : c.size ≤ 1048576) :
    Calls Tryz.prog 111 #[.int .i64 n, .string c] w fun e w' => e = .returned (.bool (B (changeP n c))) ∧ w = w' := by
  by_cases h1 : inB n 3 8
  · have e1 := B_t h1
    obtain ⟨h11, h12⟩ := h1
    by_cases hz : c.size = 0
    · obtain rfl := size_zero hz
      clear hz
      go_enter Tryz.func111, Tryz.ntmps111
      go_wp2_with (go_at_call 53; refine (l1In_any _ _ _ _).mono ?_; rintro e w' ⟨rfl, rfl⟩)
      go_ret
      exact ⟨ret_f (fun h => by
        rcases h.2 with ⟨h2, _⟩ | ⟨_, h2, _⟩
        · exact absurd (congrArg ByteArray.size h2) (by decide)
        · exact absurd h2 (by decide)), rfl⟩
    · have hpos : 0 < c.size := by omega
      have hE1 := toList_ne hpos
      have hE2 := toList_isEmpty hpos
      by_cases hl : n - 2 < (c.size : Int)
      · go_enter Tryz.func111, Tryz.ntmps111
        go_wp2_with (go_at_call 53; refine (l1In_any _ _ _ _).mono ?_; rintro e w' ⟨rfl, rfl⟩)
        go_ret
        exact ⟨ret_f (fun h => by
          rcases h.2 with ⟨h2, _⟩ | ⟨_, _, h2, _⟩
          · rw [h2, dash_size] at hl; omega
          · omega), rfl⟩
      · by_cases hd : c = dash
        · have hd2 : (c.toList == [45]) = true := by rw [hd, ByteArray.toList_eq]; rfl
          have Hd := Lib.hid hd
          clear hd
          by_cases hn : n % 2 = 0
          all_goals
            go_enter Tryz.func111, Tryz.ntmps111
            go_wp2_with (go_at_call 53; refine (l1In_any _ _ _ _).mono ?_; rintro e w' ⟨rfl, rfl⟩)
            go_ret
            first
              | exact ⟨by rw [B_t (show changeP n c from ⟨⟨h11, h12⟩, .inl ⟨Hd.out, hn⟩⟩)]; simp [hn], rfl⟩
              | exact ⟨by rw [B_f (show ¬ changeP n c from fun h => by
                  rcases h.2 with ⟨_, h2⟩ | ⟨h2, _⟩
                  · exact hn h2
                  · exact h2 Hd.out)]; simp [hn], rfl⟩
        · have hd2 := toList_dash hd
          have Hd := Lib.hid hd
          have hch : Hid (changeP n c ↔ chainP n c) := Lib.hid ⟨fun h => by
            rcases h.2 with ⟨h2, _⟩ | ⟨_, _, _, h2⟩
            · exact absurd h2 hd
            · exact h2, fun h => ⟨⟨h11, h12⟩, .inr ⟨hd, hpos, by omega, h⟩⟩⟩
          clear hd
          go_enter Tryz.func111, Tryz.ntmps111
          go_wp2_with (go_at_call 53; refine (l1In_any _ _ _ _).mono ?_; rintro e w' ⟨rfl, rfl⟩)
          go_loop [5, 6] (fun v i => ∃ k : Nat, k ≤ c.size ∧ i = .int .i64 k ∧ v = .int .i64 (dgP c k) ∧ (∀ j, j < k → stepP n c j)) (fun _ i => c.size - (intOf i).toNat)
          case atStart => exact ⟨0, by omega, by rfl, by rfl, fun j hj => by omega⟩
          case round =>
            obtain ⟨k, hk, rfl, rfl, hq⟩ := hrel
            obtain ⟨b0, b1⟩ := steps_bound k hq
            have Hq := Lib.hid hq
            clear hq
            obtain ⟨P, hP⟩ : ∃ P, Hid (dgP c k = P) := ⟨_, Lib.hid rfl⟩
            rw [hP.out] at b0 b1 ⊢
            have b2 : P ≤ 8 := by
              rcases Nat.eq_zero_or_pos k with h0 | h0
              · rw [← hP.out, h0]; simp [dgP]
              · have := b1 h0; omega
            have B1 := Lib.hid b1
            clear b1
            by_cases hlt : k < c.size
            · have hb0 := bat_lo c k
              have hb1 := bat_hi c k
              have hst : Hid (stepP n c k ↔ P < bat c k - 48 ∧ bat c k - 48 ≤ n ∧ (bat c k - 48 - P) % 2 ≠ 0) := Lib.hid (by unfold stepP dg; rw [hP.out])
              by_cases c1 : inB (bat c k - 48) (P + 1) n
              · have f1 := B_t c1
                obtain ⟨c11, c12⟩ := c1
                by_cases c2 : (bat c k - 48 - P) % 2 = 0
                · have hno : Hid (¬ stepP n c k) := Lib.hid (fun h => (hst.out.1 h).2.2 c2)
                  go_wp2_with (go_at_call 53; refine (l1In_any _ _ _ _).mono ?_; rintro e w' ⟨rfl, rfl⟩)
                  go_ret
                  exact ⟨ret_f (fun h => hno.out ((hch.out.1 h).1 k hlt)), rfl⟩
                · have hye : Hid (stepP n c k) := Lib.hid (hst.out.2 ⟨by omega, c12, c2⟩)
                  go_wp2_with (go_at_call 53; refine (l1In_any _ _ _ _).mono ?_; rintro e w' ⟨rfl, rfl⟩)
                  go_round
                  case rel =>
                    refine ⟨k + 1, by omega, by go_num, by simp only [dgP, dg], fun j hj => ?_⟩
                    rcases Nat.lt_or_eq_of_le (Nat.le_of_lt_succ hj) with h' | rfl
                    · exact Hq.out j h'
                    · exact hye.out
                  case measure => simp [intOf]; omega
              · have f1 := B_f c1
                have C1 := Lib.hid c1
                clear c1
                go_wp2_with (go_at_call 53; refine (l1In_any _ _ _ _).mono ?_; rintro e w' ⟨rfl, rfl⟩)
                go_ret
                exact ⟨ret_f (fun h => C1.out (by have := hst.out.1 ((hch.out.1 h).1 k hlt); exact ⟨by omega, this.2.1⟩)), rfl⟩
            · obtain rfl : k = c.size := by omega
              have b3 : P ≤ n := B1.out hpos
              by_cases hn : (n - P) % 2 = 0
              all_goals
                go_wp2
                go_ret
                first
                  | exact ⟨by rw [B_t (hch.out.2 ⟨Hq.out, by rw [hP.out]; exact hn⟩)]; simp [hn], rfl⟩
                  | exact ⟨by rw [B_f (fun h => hn (by have := (hch.out.1 h).2; rw [hP.out] at this; exact this))]; simp [hn], rfl⟩
  · have e1 := B_f h1
    have H1 := Lib.hid h1
    clear h1
    go_enter Tryz.func111, Tryz.ntmps111
    go_wp2_with (go_at_call 53; refine (l1In_any _ _ _ _).mono ?_; rintro e w' ⟨rfl, rfl⟩)
    go_ret
    exact ⟨ret_f (fun h => H1.out h.1), rfl⟩
/-- The places that a text tells. -/
def dgL (c : ByteArray) : List Int := (List.range c.size).map (dg c)
def digsP (c : ByteArray) : Prop := ∀ i : Nat, i < c.size → 49 ≤ bat c i ∧ bat c i ≤ 56
def dgTo (c : ByteArray) (k : Nat) : List Int := (List.range k).map (dg c)
/-- Places that stay in a change. -/
def apP (n : Int) (l : List Int) : Prop := ∃ h : 0 < l.length, (l.length : Int) ≠ n ∧ l[0] % 2 ≠ 0 ∧ l[l.length - 1] % 2 = n % 2 ∧ l[l.length - 1] ≤ n ∧ ∀ (i : Nat) (hi : i + 1 < l.length), l[i] < l[i + 1] ∧ (l[i + 1] - l[i]) % 2 ≠ 0
end Go.Proofs.YtglnehinmdmgmaaGreat

/-
  All lists of places of a change, in plain words (no program).
-/
namespace Go.Proofs.YtglnehinmdmgmaaGreat
open Go.RowKit
set_option linter.unusedVariables false
set_option linter.unusedSimpArgs false

/-- All ways to go on where k places are left. -/
def fromR (n : Nat) : Nat → List (List Int)
  | 0 => [[]]
  | 1 => [[(n : Int)]]
  | k + 2 => (fromR n (k + 1)).map (fun r => ((n : Int) - (k + 1)) :: r) ++ fromR n k
theorem fromR_succ (n k : Nat) : fromR n (k + 1) = (fromR n k).map (fun r => ((n : Int) - k) :: r) ++ (if k = 0 then [] else fromR n (k - 1)) := by
  cases k with
  | zero => simp [fromR]
  | succ k => simp [fromR]
theorem fromR_pos (n : Nat) : ∀ k, 0 < (fromR n k).length
  | 0 => by simp [fromR]
  | 1 => by simp [fromR]
  | k + 2 => by have := fromR_pos n k; simp [fromR]; omega
theorem fromR_len (n : Nat) : ∀ k, (fromR n k).length ≤ 2 ^ k
  | 0 => by simp [fromR]
  | 1 => by simp [fromR]
  | k + 2 => by
    have h1 := fromR_len n (k + 1)
    have h2 := fromR_len n k
    simp only [fromR, List.length_append, List.length_map]
    rw [show (2 : Nat) ^ (k + 2) = 2 ^ (k + 1) + 2 ^ (k + 1) by rw [Nat.pow_succ]; omega]
    have : (2 : Nat) ^ k ≤ 2 ^ (k + 1) := Nat.pow_le_pow_right (by omega) (by omega)
    omega
theorem fromR_in (n : Nat) : ∀ k, k ≤ n → ∀ r ∈ fromR n k, r.length ≤ k ∧ ∀ p ∈ r, 1 ≤ p ∧ p ≤ n
  | 0, _ => by simp [fromR]
  | 1, h => by simp [fromR]; omega
  | k + 2, h => by
    intro r hr
    simp only [fromR, List.mem_append, List.mem_map] at hr
    rcases hr with ⟨q, hq, rfl⟩ | hr
    · have := fromR_in n (k + 1) (by omega) q hq
      refine ⟨by simp; omega, fun p hp => ?_⟩
      rcases List.mem_cons.1 hp with rfl | hp
      · omega
      · exact this.2 p hp
    · have := fromR_in n k (by omega) r hr
      exact ⟨by omega, this.2⟩
/-- The last list of places: none, or the last place alone. -/
def lastR (n k : Nat) : List Int := if k % 2 = 0 then [] else [(n : Int)]
theorem fromR_last (n : Nat) : ∀ k, lastR n k ∈ fromR n k
  | 0 => by simp [fromR, lastR]
  | 1 => by simp [fromR, lastR]
  | k + 2 => by
    have := fromR_last n k
    have e : lastR n (k + 2) = lastR n k := by unfold lastR; rw [show (k + 2) % 2 = k % 2 by omega]
    rw [e]; simp only [fromR, List.mem_append]; exact .inr this
/-- The text of some places, each below ten. -/
def plcT (l : List Int) : ByteArray := mkS (l.map fun p => 48 + p)
def ofR (l : List Int) : ByteArray := if l = [] then dash else plcT l
theorem plcT_size (l : List Int) : (plcT l).size = l.length := by unfold plcT; rw [size_mkS]; simp
theorem ofR_nil : ofR [] = dash := if_pos rfl
theorem ofR_some {l : List Int} (h : l ≠ []) : ofR l = plcT l := if_neg h
/-- The last list of places makes a valid change. -/
theorem last_change {n : Nat} (h3 : 3 ≤ n) (h8 : n ≤ 8) : changeP (n : Int) (ofR (lastR n n)) := by
  by_cases e : n % 2 = 0
  · have : lastR n n = [] := by unfold lastR; rw [if_pos e]
    rw [this, ofR_nil]
    exact ⟨⟨by omega, by omega⟩, .inl ⟨rfl, by omega⟩⟩
  · have : lastR n n = [(n : Int)] := by unfold lastR; rw [if_neg e]
    rw [this, ofR_some (by simp)]
    have hs : (plcT [(n : Int)]).size = 1 := plcT_size _
    have hb : bat (plcT [(n : Int)]) ((0 : Nat) : Int) = 48 + (n : Int) := by
      unfold plcT
      rw [bat_mkS _ 0 (by simp) (by simp; omega) (by simp; omega)]; simp
    have hd : dg (plcT [(n : Int)]) 0 = (n : Int) := by unfold dg; rw [hb]; omega
    refine ⟨⟨by omega, by omega⟩, .inr ⟨fun h => ?_, by omega, by omega, fun i hi => ?_, ?_⟩⟩
    · rw [h] at hb
      have : bat dash ((0 : Nat) : Int) = 45 := rfl
      omega
    · obtain rfl : i = 0 := by omega
      unfold stepP
      rw [hd]
      show (0 : Int) < n ∧ (n : Int) ≤ n ∧ ((n : Int) - 0) % 2 ≠ 0
      omega
    · rw [hs]
      show ((n : Int) - dg (plcT [(n : Int)]) 0) % 2 = 0
      rw [hd]; omega
end Go.Proofs.YtglnehinmdmgmaaGreat

/-
  The cycles of a finite bijection, and its points set aside one by one: as many are moved as the cycles' lengths less one: plain.
-/
set_option linter.unusedVariables false
set_option linter.unusedSimpArgs false
namespace Go.Proofs.YtglnehinmdmgmaaGreat.CycT
/-- From x through l to y: each is sent to the next. -/
def path (f : Nat → Nat) : Nat → List Nat → Nat → Prop
  | x, [], y => f x = y
  | x, z :: l, y => f x = z ∧ path f z l y
theorem path_app {f : Nat → Nat} {k : Nat} {v : List Nat} {y : Nat} : ∀ {u : List Nat} {x : Nat}, path f x (u ++ k :: v) y ↔ path f x u k ∧ path f k v y
  | [], x => by simp [path]
  | z :: u, x => by simp only [List.cons_append, path, path_app (u := u), and_assoc]
theorem path_congr {f g : Nat → Nat} : ∀ {l : List Nat} {x y : Nat}, (∀ z, z = x ∨ z ∈ l → f z = g z) → path f x l y → path g x l y
  | [], x, y, h, hp => by simp only [path] at *; rw [← h x (.inl rfl)]; exact hp
  | z :: l, x, y, h, hp => by
    simp only [path] at *
    refine ⟨by rw [← h x (.inl rfl)]; exact hp.1, path_congr (fun t ht => h t (.inr (by rcases ht with rfl | ht <;> simp [*]))) hp.2⟩
/-- The last of a path is sent to its end. -/
theorem path_last {f g : Nat → Nat} {k y : Nat} : ∀ {l : List Nat} {x : Nat}, (x :: l).Nodup → (∀ z, z ∈ x :: l → f z ≠ k → g z = f z) → (∀ z, z ∈ x :: l → f z = k → g z = y) → k ∉ l → path f x l k → path g x l y
  | [], x, _, h1, h2, _, hp => by simp only [path] at *; exact h2 x (by simp) hp
  | z :: l, x, hn, h1, h2, hk, hp => by
    simp only [path] at *
    have hz : z ≠ k := fun e => hk (by simp [e])
    have hx : f x ≠ k := by rw [hp.1]; exact hz
    refine ⟨by rw [h1 x (by simp) hx]; exact hp.1, path_last (List.nodup_cons.1 hn).2 (fun t ht => h1 t (List.mem_cons_of_mem _ ht)) (fun t ht => h2 t (List.mem_cons_of_mem _ ht)) (fun e => hk (List.mem_cons_of_mem _ e)) hp.2⟩
/-- A cycle: a point and what follows. -/
abbrev Cy := Nat × List Nat
def Cy.all (c : Cy) : List Nat := c.1 :: c.2
def Cy.ok (f : Nat → Nat) (c : Cy) : Prop := path f c.1 c.2 c.1
def flat (C : List Cy) : List Nat := C.flatMap Cy.all
def excess : List Cy → Nat
  | [] => 0
  | c :: C => c.2.length + excess C
structure Dec (n : Nat) (f : Nat → Nat) (C : List Cy) : Prop where
  ok : ∀ c ∈ C, c.ok f
  nd : (flat C).Nodup
  cov : ∀ i, i < n → f i ≠ i → i ∈ flat C
/-- One point set aside: what is sent to it is sent on. -/
def aside (f : Nat → Nat) (k : Nat) : Nat → Nat := fun i => if i = k then k else if f i = k then f k else f i
theorem excess_app (A B : List Cy) : excess (A ++ B) = excess A + excess B := by
  induction A with
  | nil => simp [excess]
  | cons c A ih => simp [excess, ih, Nat.add_assoc]
theorem flat_app (A B : List Cy) : flat (A ++ B) = flat A ++ flat B := by simp [flat]
theorem flat_cons (c : Cy) (B : List Cy) : flat (c :: B) = c.all ++ flat B := by simp [flat]
theorem Dec.aside {n : Nat} {f : Nat → Nat} {C : List Cy} (h : Dec n f C) (hf : ∀ i, i < n → f i < n) (hi : ∀ i j, i < n → j < n → f i = f j → i = j) (hb : ∀ x ∈ flat C, x < n) {k : Nat} (hk : k < n) (hne : f k ≠ k) :
    ∃ C', Dec n (aside f k) C' ∧ excess C = excess C' + 1 ∧ ∀ x ∈ flat C', x < n := by
  have hm := h.cov k hk hne
  obtain ⟨c, hc, hkc⟩ : ∃ c ∈ C, k ∈ c.all := by simpa [flat] using hm
  obtain ⟨A, B, rfl⟩ := List.append_of_mem hc
  -- rotated so that k stands first
  obtain ⟨l, hl, hlen, hperm⟩ : ∃ l, path f k l k ∧ l.length = c.2.length ∧ (k :: l).Perm c.all := by
    obtain ⟨x, m⟩ := c
    have ho := h.ok _ hc
    rcases List.mem_cons.1 hkc with e | e
    · simp only at e; subst e; exact ⟨m, ho, rfl, List.Perm.refl _⟩
    · simp only at e
      obtain ⟨u, v, rfl⟩ := List.append_of_mem e
      have hp := path_app.1 ho
      refine ⟨v ++ x :: u, path_app.2 ⟨hp.2, hp.1⟩, by simp; omega, ?_⟩
      show (k :: (v ++ x :: u)).Perm (x :: (u ++ k :: v))
      have e1 : (k :: v ++ x :: u).Perm (x :: u ++ k :: v) := List.perm_append_comm
      simpa using e1
  have hnd := h.nd
  rw [flat_app, flat_cons] at hnd
  have hnd2 : (flat A ++ ((k :: l) ++ flat B)).Nodup := (((hperm.append_right (flat B)).append_left (flat A)).nodup_iff).2 hnd
  cases l with
  | nil => exact absurd hl hne
  | cons x l =>
    have hpx : path f x l k := hl.2
    have hkx : f k = x := hl.1
    have hmid := (List.nodup_append.1 hnd2)
    have hmid2 := List.nodup_append.1 hmid.2.1
    have hkn : k ∉ x :: l := (List.nodup_cons.1 hmid2.1).1
    have hxl : (x :: l).Nodup := (List.nodup_cons.1 hmid2.1).2
    have hbx : ∀ z ∈ k :: x :: l, z < n := fun z hz => hb z (by rw [flat_app, flat_cons]; simp only [List.mem_append]; exact .inr (.inl (hperm.subset hz)))
    have hsub : ∀ z, z ∈ flat (A ++ (x, l) :: B) → z ∈ flat (A ++ c :: B) := by
      intro z hz
      rw [flat_app, flat_cons, List.mem_append, List.mem_append] at hz ⊢
      rcases hz with hz | hz | hz
      · exact .inl hz
      · exact .inr (.inl (hperm.subset (List.mem_cons_of_mem _ hz)))
      · exact .inr (.inr hz)
    -- the point that is sent to k lies in the cycle
    have hpre : ∀ z, z < n → f z = k → z ∈ x :: l := by
      intro z hz e
      -- the last of the path
      have : ∀ {l : List Nat} {x : Nat}, path f x l k → ∃ t ∈ x :: l, f t = k := by
        intro l
        induction l with
        | nil => intro x hp; exact ⟨x, by simp, hp⟩
        | cons y l ih =>
          intro x hp
          obtain ⟨t, ht, he⟩ := ih hp.2
          exact ⟨t, List.mem_cons_of_mem _ ht, he⟩
      obtain ⟨t, ht, he⟩ := this hpx
      have := hi t z (hbx t (List.mem_cons_of_mem _ ht)) hz (by rw [he, e])
      rw [← this]; exact ht
    refine ⟨A ++ (x, l) :: B, ⟨?_, ?_, ?_⟩, ?_, ?_⟩
    · intro c' hc'
      have other : ∀ c' ∈ A ++ B, c'.ok (CycT.aside f k) := by
        intro c' hc'
        have hok : c'.ok f := h.ok c' (by rcases List.mem_append.1 hc' with h1 | h1 <;> simp [h1])
        refine path_congr (fun z hz => ?_) hok
        have hz' : z ∈ c'.all := by rcases hz with rfl | hz; exact List.mem_cons_self; exact List.mem_cons_of_mem _ hz
        have hzf : z ∈ flat A ∨ z ∈ flat B := by
          rcases List.mem_append.1 hc' with h1 | h1
          · exact .inl (List.mem_flatMap.2 ⟨c', h1, hz'⟩)
          · exact .inr (List.mem_flatMap.2 ⟨c', h1, hz'⟩)
        have hnin : z ∉ k :: x :: l := by
          intro e
          rcases hzf with h1 | h1
          · exact hmid.2.2 z h1 z (List.mem_append.2 (.inl e)) rfl
          · exact hmid2.2.2 z e z h1 rfl
        have hzn : z < n := hb z (by rw [flat_app, flat_cons]; rcases hzf with h1 | h1 <;> simp [h1])
        unfold CycT.aside
        rw [if_neg (fun e => hnin (by simp [e])), if_neg (fun e => hnin (List.mem_cons_of_mem _ (hpre z hzn e)))]
      rcases List.mem_append.1 hc' with h1 | h1
      · exact other c' (List.mem_append.2 (.inl h1))
      · rcases List.mem_cons.1 h1 with rfl | h1
        · refine path_last hxl (fun z hz hzk => ?_) (fun z hz hzk => ?_) (fun e => hkn (List.mem_cons_of_mem _ e)) hpx
          · unfold CycT.aside; rw [if_neg (fun e => hkn (by rw [← e]; exact hz)), if_neg hzk]
          · unfold CycT.aside; rw [if_neg (fun e => hkn (by rw [← e]; exact hz)), if_pos hzk]; exact hkx
        · exact other c' (List.mem_append.2 (.inr h1))
    · rw [flat_app, flat_cons]
      refine hnd2.sublist ?_
      exact List.Sublist.append (List.Sublist.refl _) (List.Sublist.append (List.sublist_cons_self _ _) (List.Sublist.refl _))
    · intro i hin hne'
      unfold CycT.aside at hne'
      have hik : i ≠ k := fun e => by rw [if_pos e] at hne'; exact hne' e.symm
      rw [if_neg hik] at hne'
      have hfi : f i ≠ i := by
        intro e
        rw [if_neg (by rw [e]; exact hik)] at hne'
        exact hne' e
      have hmi := h.cov i hin hfi
      rw [flat_app, flat_cons, List.mem_append, List.mem_append] at hmi ⊢
      rcases hmi with h1 | h1 | h1
      · exact .inl h1
      · have := hperm.symm.subset h1
        rcases List.mem_cons.1 this with e | e
        · exact absurd e hik
        · exact .inr (.inl e)
      · exact .inr (.inr h1)
    · rw [excess_app, excess_app]
      simp only [excess]
      have : c.2.length = l.length + 1 := by rw [← hlen]; rfl
      omega
    · intro z hz; exact hb z (hsub z hz)
/-- How many points are not at home when their turn comes, from k on. -/
def moved (n : Nat) : Nat → Nat → (Nat → Nat) → Nat
  | 0, _, _ => 0
  | m + 1, k, f => if f k = k then moved n m (k + 1) f else moved n m (k + 1) (aside f k) + 1
theorem aside_lt {n k : Nat} {f : Nat → Nat} (hf : ∀ i, i < n → f i < n) (hk : k < n) : ∀ i, i < n → aside f k i < n := by
  intro i hi; unfold aside; split
  · exact hk
  · split
    · exact hf k hk
    · exact hf i hi
theorem aside_inj {n k : Nat} {f : Nat → Nat} (hf : ∀ i, i < n → f i < n) (hi : ∀ i j, i < n → j < n → f i = f j → i = j) (hk : k < n) (hne : f k ≠ k) : ∀ i j, i < n → j < n → aside f k i = aside f k j → i = j := by
  intro i j h1 h2 e
  unfold aside at e
  by_cases a : i = k <;> by_cases b : j = k
  · rw [a, b]
  · rw [if_pos a, if_neg b] at e
    split at e
    · exact absurd e.symm hne
    · rename_i h; exact absurd e.symm h
  · rw [if_neg a, if_pos b] at e
    split at e
    · exact absurd e hne
    · rename_i h; exact absurd e h
  · rw [if_neg a, if_neg b] at e
    by_cases c : f i = k <;> by_cases d : f j = k
    · exact hi i j h1 h2 (by rw [c, d])
    · rw [if_pos c, if_neg d] at e; exact absurd (hi k j hk h2 e) (fun x => b x.symm)
    · rw [if_neg c, if_pos d] at e; exact absurd (hi i k h1 hk e) a
    · rw [if_neg c, if_neg d] at e; exact hi i j h1 h2 e
theorem Dec.moved {n : Nat} : ∀ (m k : Nat) (f : Nat → Nat) (C : List Cy), k + m = n → Dec n f C → (∀ i, i < n → f i < n) → (∀ i j, i < n → j < n → f i = f j → i = j) → (∀ x ∈ flat C, x < n) → (∀ i, i < k → f i = i) → moved n m k f = excess C
  | 0, k, f, C, hkm, h, hf, hi, hb, h0 => by
    have hk : k = n := by omega
    subst hk
    have : ∀ D : List Cy, (∀ c ∈ D, c.ok f) → (flat D).Nodup → (∀ x ∈ flat D, x < k) → excess D = 0 := by
      intro D
      induction D with
      | nil => intros; rfl
      | cons c D ih =>
        intro ok nd bd
        rw [flat_cons] at nd bd
        have := ih (fun c' hc' => ok c' (List.mem_cons_of_mem _ hc')) (List.nodup_append.1 nd).2.1 (fun x hx => bd x (by simp [hx]))
        simp only [excess]
        obtain ⟨x, l⟩ := c
        cases l with
        | nil => simpa using this
        | cons y l =>
          have hp := ok _ List.mem_cons_self
          have hxy : f x = y := hp.1
          rw [h0 x (bd x (by simp [Cy.all]))] at hxy
          have hn := (List.nodup_append.1 nd).1
          have := (List.nodup_cons.1 hn).1
          exact absurd (by rw [hxy]; simp) this
    rw [this C h.ok h.nd hb]; rfl
  | m + 1, k, f, C, hkm, h, hf, hi, hb, h0 => by
    simp only [CycT.moved]
    split
    · rename_i e
      exact Dec.moved m (k + 1) f C (by omega) h hf hi hb (fun i hi => by rcases Nat.lt_or_eq_of_le (Nat.le_of_lt_succ hi) with x | rfl; exact h0 i x; exact e)
    · rename_i e
      obtain ⟨C', hd, hex, hb'⟩ := h.aside hf hi hb (show k < n by omega) e
      rw [hex, Dec.moved m (k + 1) (CycT.aside f k) C' (by omega) hd (aside_lt hf (by omega)) (aside_inj hf hi (by omega) e) hb' (fun i hik => ?_)]
      unfold CycT.aside
      split
      · rename_i x; exact x.symm
      · rename_i x
        have hfi := h0 i (by omega)
        rw [if_neg (by rw [hfi]; exact x)]
        exact hfi
end Go.Proofs.YtglnehinmdmgmaaGreat.CycT
