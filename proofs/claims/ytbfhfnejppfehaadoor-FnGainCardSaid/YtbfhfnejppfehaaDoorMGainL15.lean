import Derived.Test.YtbfhfnejppfehaaDoorMGainL14
/-
  Chains of exchanges: where no exchange betters a placing, no closed chain gains, nor one from a person without a bell; the greatest gain of a chain. In plain words, no program in sight.
-/
namespace Go.Proofs.YtbfhfnejppfehaaDoor
set_option linter.unusedVariables false
set_option linter.unusedSimpArgs false

theorem dup_split : ∀ (l : List Nat), ¬ l.Nodup → ∃ (b : Nat) (x y z : List Nat), l = x ++ (b :: (y ++ (b :: z)))
  | [], h => absurd List.nodup_nil h
  | a :: l, h => by
    by_cases ha : a ∈ l
    · obtain ⟨y, z, rfl⟩ := List.append_of_mem ha
      exact ⟨a, [], y, z, rfl⟩
    · have : ¬ l.Nodup := fun hl => h (List.nodup_cons.2 ⟨ha, hl⟩)
      obtain ⟨b, x, y, z, rfl⟩ := dup_split l this
      exact ⟨b, a :: x, y, z, rfl⟩
theorem nodup_le : ∀ (n : Nat) (l : List Nat), l.Nodup → (∀ x ∈ l, x < n) → l.length ≤ n
  | 0, l, _, h => by
    cases l with
    | nil => simp
    | cons x l => have := h x (by simp); omega
  | n + 1, l, hn, h => by
    have h1 := nodup_le n (l.erase n) (hn.erase n) (fun x hx => by
      have := (hn.mem_erase_iff).1 hx
      have := h x this.2; omega)
    have := List.length_erase (a := n) (l := l)
    split at this <;> omega

section
variable (s : Nat → Nat → Int) (who : Nat → Nat) (n m : Nat)
def cst (i b : Nat) : Int := s i b - s (who b) b
def wOk (i : Nat) : List Nat → Prop
  | [] => True
  | b :: bs => b < n ∧ 0 < s i b ∧ wOk (who b) bs
def wVal (i : Nat) : List Nat → Int
  | [] => 0
  | b :: bs => cst s who i b + wVal (who b) bs
def wEnd (i : Nat) : List Nat → Nat
  | [] => i
  | b :: bs => wEnd (who b) bs
def asg (i : Nat) : List Nat → Nat → Nat
  | [] => who
  | b :: bs => fun x => if x = b then i else asg (who b) bs x
def totS (F : Nat → Nat) : Int := sumF (fun b => s (F b) b) (List.range n)
def validS (F : Nat → Nat) : Prop := (∀ b, b < n → F b < m ∧ 0 < s (F b) b) ∧ ∀ b c, b < n → c < n → F b = F c → b = c
def optS : Prop := validS s n m who ∧ ∀ F, validS s n m F → totS s n F ≤ totS s n who
def mxE (f : Nat → Int) : Nat → Int
  | 0 => 0
  | b + 1 => max (mxE f b) (f b)
def eS : Nat → Nat → Int
  | 0, _ => 0
  | k + 1, i => mxE (fun b => if 0 < s i b then eS k (who b) + cst s who i b else 0) n
end

section
variable {s : Nat → Nat → Int} {who : Nat → Nat} {n m : Nat}
theorem wOk_app : ∀ (xs ys : List Nat) (i : Nat), wOk s who n i (xs ++ ys) ↔ wOk s who n i xs ∧ wOk s who n (wEnd who i xs) ys
  | [], ys, i => by simp [wOk, wEnd]
  | b :: xs, ys, i => by simp only [List.cons_append, wOk, wEnd, wOk_app xs ys]; constructor <;> (intro h; simp_all)
theorem wVal_app : ∀ (xs ys : List Nat) (i : Nat), wVal s who i (xs ++ ys) = wVal s who i xs + wVal s who (wEnd who i xs) ys
  | [], ys, i => by simp [wVal, wEnd]
  | b :: xs, ys, i => by simp only [List.cons_append, wVal, wEnd, wVal_app xs ys]; omega
theorem wEnd_app : ∀ (xs ys : List Nat) (i : Nat), wEnd who i (xs ++ ys) = wEnd who (wEnd who i xs) ys
  | [], ys, i => by simp [wEnd]
  | b :: xs, ys, i => by simp only [List.cons_append, wEnd, wEnd_app xs ys]
theorem wOk_lt : ∀ (bs : List Nat) (i : Nat), wOk s who n i bs → ∀ x ∈ bs, x < n
  | [], i, _, x, hx => by simp at hx
  | b :: bs, i, h, x, hx => by
    rcases List.mem_cons.1 hx with rfl | hx
    · exact h.1
    · exact wOk_lt bs _ h.2.2 x hx
theorem asg_out : ∀ (bs : List Nat) (i x : Nat), x ∉ bs → asg who i bs x = who x
  | [], i, x, _ => rfl
  | b :: bs, i, x, h => by
    simp only [asg]
    rw [if_neg (fun e => h (by simp [e])), asg_out bs _ x (fun e => h (by simp [e]))]
theorem tot_upd (F : Nat → Nat) (b i : Nat) : ∀ (k : Nat), sumF (fun x => s (if x = b then i else F x) x) (List.range k) = sumF (fun x => s (F x) x) (List.range k) + if b < k then s i b - s (F b) b else 0
  | 0 => by simp [sumF]
  | k + 1 => by
    rw [sumF_range_succ, sumF_range_succ, tot_upd F b i k]
    by_cases e : k = b
    · subst e; simp; omega
    · rw [if_neg e]
      by_cases h : b < k
      · rw [if_pos h, if_pos (by omega)]; omega
      · rw [if_neg h, if_neg (by omega)]; omega
theorem tot_upd' (F : Nat → Nat) {b : Nat} (i : Nat) (hb : b < n) : totS s n (fun x => if x = b then i else F x) = totS s n F + (s i b - s (F b) b) := by
  unfold totS; rw [tot_upd, if_pos hb]
theorem asg_tot : ∀ (bs : List Nat) (i : Nat), bs.Nodup → wOk s who n i bs → totS s n (asg who i bs) = totS s n who + wVal s who i bs
  | [], i, _, _ => by simp [asg, wVal]
  | b :: bs, i, hn, h => by
    have hn' := List.nodup_cons.1 hn
    have ih := asg_tot bs (who b) hn'.2 h.2.2
    simp only [asg, wVal]
    rw [tot_upd' _ i h.1, ih, asg_out bs _ b hn'.1]
    unfold cst; omega
theorem asg_inj (hw : ∀ b c, b < n → c < n → who b = who c → b = c) : ∀ (bs : List Nat) (h : Nat), h < n → (h :: bs).Nodup → (∀ x ∈ bs, x < n) →
    (∀ x y, x < n → y < n → x ≠ h → y ≠ h → asg who (who h) bs x = asg who (who h) bs y → x = y) ∧ ∀ x, x < n → x ≠ h → asg who (who h) bs x ≠ wEnd who (who h) bs
  | [], h, hh, _, _ => ⟨fun x y hx hy _ _ e => hw x y hx hy e, fun x hx hne e => hne (hw x h hx hh e)⟩
  | b :: bs, h, hh, hn, hlt => by
    have hn1 := List.nodup_cons.1 hn
    have hn2 := List.nodup_cons.1 hn1.2
    have hb := hlt b (by simp)
    obtain ⟨i1, i2⟩ := asg_inj hw bs b hb hn1.2 (fun x hx => hlt x (by simp [hx]))
    have hhb : h ≠ b := fun e => hn1.1 (by simp [e])
    have hho : asg who (who b) bs h = who h := asg_out bs _ h (fun e => hn1.1 (by simp [e]))
    have hx : ∀ x, x < n → x ≠ h → x ≠ b → asg who (who b) bs x ≠ who h := fun x hx h1 h2 e => h1 (i1 x h hx hh h2 hhb (by rw [e, hho]))
    refine ⟨fun x y hx' hy' h1 h2 e => ?_, fun x hx' h1 => ?_⟩
    · simp only [asg] at e
      by_cases ex : x = b <;> by_cases ey : y = b
      · omega
      · rw [if_pos ex, if_neg ey] at e; exact absurd e.symm (hx y hy' h2 ey)
      · rw [if_neg ex, if_pos ey] at e; exact absurd e (hx x hx' h1 ex)
      · rw [if_neg ex, if_neg ey] at e; exact i1 x y hx' hy' ex ey e
    · simp only [asg, wEnd]
      by_cases ex : x = b
      · rw [if_pos ex, ← hho]; exact i2 h hh hhb
      · rw [if_neg ex]; exact i2 x hx' ex
theorem asg_ok (hv : ∀ b, b < n → who b < m ∧ 0 < s (who b) b) : ∀ (bs : List Nat) (i : Nat), i < m → wOk s who n i bs → ∀ x, x < n → asg who i bs x < m ∧ 0 < s (asg who i bs x) x
  | [], i, _, _, x, hx => hv x hx
  | b :: bs, i, hi, h, x, hx => by
    simp only [asg]
    by_cases e : x = b
    · rw [if_pos e]; exact ⟨hi, by rw [e]; exact h.2.1⟩
    · rw [if_neg e]; exact asg_ok hv bs _ (hv b h.1).1 h.2.2 x hx
theorem asg_img : ∀ (bs : List Nat) (h x : Nat), h < n → (∀ y ∈ bs, y < n) → x < n → ∃ z, z < n ∧ asg who (who h) bs x = who z
  | [], h, x, hh, _, hx => ⟨x, hx, rfl⟩
  | b :: bs, h, x, hh, hl, hx => by
    simp only [asg]
    by_cases e : x = b
    · exact ⟨h, hh, by rw [if_pos e]⟩
    · rw [if_neg e]; exact asg_img bs b x (hl b (by simp)) (fun y hy => hl y (by simp [hy])) hx
theorem wEnd_lt (hv : ∀ b, b < n → who b < m ∧ 0 < s (who b) b) : ∀ (bs : List Nat) (i : Nat), i < m → (∀ x ∈ bs, x < n) → wEnd who i bs < m
  | [], i, h, _ => h
  | b :: bs, i, h, hl => wEnd_lt hv bs _ (hv b (hl b (by simp))).1 (fun x hx => hl x (by simp [hx]))
theorem closed1 (ho : optS s who n m) (h : Nat) (bs : List Nat) (hh : h < n) (hn : (h :: bs).Nodup) (hk : wOk s who n (who h) (bs ++ [h])) : wVal s who (who h) (bs ++ [h]) ≤ 0 := by
  obtain ⟨⟨hv, hw⟩, hopt⟩ := ho
  have hk1 := (wOk_app bs [h] (who h)).1 hk
  have hlt := wOk_lt bs (who h) hk1.1
  obtain ⟨i1, i2⟩ := asg_inj hw bs h hh hn hlt
  have hn1 := List.nodup_cons.1 hn
  have hF := hopt (fun x => if x = h then wEnd who (who h) bs else asg who (who h) bs x) ⟨fun b hb => ?_, fun b c hb hc e => ?_⟩
  · rw [tot_upd' _ _ hh, asg_tot bs _ hn1.2 hk1.1, asg_out bs _ h hn1.1] at hF
    rw [wVal_app]
    simp only [wVal, cst]
    omega
  · by_cases e : b = h
    · simp only [e, if_true]; exact ⟨wEnd_lt hv bs _ (hv h hh).1 hlt, hk1.2.2.1⟩
    · simp only [if_neg e]; exact asg_ok hv bs _ (hv h hh).1 hk1.1 b hb
  · simp only at e
    by_cases e1 : b = h <;> by_cases e2 : c = h
    · omega
    · rw [if_pos e1, if_neg e2] at e; exact absurd e.symm (i2 c hc e2)
    · rw [if_neg e1, if_pos e2] at e; exact absurd e (i2 b hb e1)
    · rw [if_neg e1, if_neg e2] at e; exact i1 b c hb hc e1 e2 e
theorem closed (ho : optS s who n m) : ∀ (N : Nat) (h : Nat) (bs : List Nat), bs.length ≤ N → h < n → wOk s who n (who h) (bs ++ [h]) → wVal s who (who h) (bs ++ [h]) ≤ 0 := by
  intro N
  induction N with
  | zero =>
    intro h bs hl hh hk
    obtain rfl : bs = [] := List.eq_nil_of_length_eq_zero (by omega)
    exact closed1 ho h [] hh (by simp) hk
  | succ N ih =>
    intro h bs hl hh hk
    by_cases hn : (bs ++ [h]).Nodup
    · refine closed1 ho h bs hh ?_ hk
      have hp : (bs ++ [h]).Perm (h :: bs) := by
        simp
      exact hp.nodup_iff.1 hn
    · obtain ⟨b, x, y, z, e⟩ := dup_split _ hn
      have hk0 := hk
      rw [e] at hk
      have ev : wVal s who (who h) (bs ++ [h]) = wVal s who (who h) (x ++ [b]) + (wVal s who (who b) (y ++ [b]) + wVal s who (who b) z) := by
        rw [e, wVal_app, wVal_app]; simp only [wVal]; rw [wVal_app, wVal_app]; simp only [wVal, wEnd]; omega
      have hk1 := (wOk_app _ _ _).1 hk
      obtain ⟨ka, hb, kb, kc⟩ := hk1
      have kd := (wOk_app _ _ _).1 kc
      obtain ⟨ke, hb2, kf, kg⟩ := kd
      have hlen := congrArg List.length e
      simp at hlen
      have ky : wOk s who n (who b) (y ++ [b]) := (wOk_app _ _ _).2 ⟨ke, hb2, kf, trivial⟩
      have iy := ih b y (by omega) hb ky
      rcases List.eq_nil_or_concat z with rfl | ⟨z', g, rfl⟩
      · have e2 : bs ++ [h] = (x ++ (b :: y)) ++ [b] := by rw [e]; simp
        obtain ⟨e3, e4⟩ := List.append_inj' e2 rfl
        simp at e4
        subst e4
        have ix := ih h x (by simp at hlen; omega) hh ((wOk_app _ _ _).2 ⟨ka, hb, kb, trivial⟩)
        rw [ev]; simp only [wVal]; omega
      · have e2 : bs ++ [h] = (x ++ (b :: (y ++ (b :: z')))) ++ [g] := by rw [e]; simp
        obtain ⟨e3, e4⟩ := List.append_inj' e2 rfl
        simp at e4
        subst e4
        have ix := ih h (x ++ (b :: z')) (by simp at hlen ⊢; omega) hh (by
          rw [List.append_assoc]
          refine (wOk_app _ _ _).2 ⟨ka, hb, kb, ?_⟩
          simpa using kg)
        rw [List.append_assoc, wVal_app] at ix
        simp only [List.cons_append, wVal] at ix
        rw [ev, wVal_app]
        simp only [wVal, List.concat_eq_append] at *
        omega
theorem cut (ho : optS s who n m) : ∀ (N : Nat) (i : Nat) (bs : List Nat), bs.length ≤ N → wOk s who n i bs → ∃ cs : List Nat, cs.Nodup ∧ wOk s who n i cs ∧ wVal s who i bs ≤ wVal s who i cs := by
  intro N
  induction N with
  | zero =>
    intro i bs hl hk
    obtain rfl : bs = [] := List.eq_nil_of_length_eq_zero (by omega)
    exact ⟨[], by simp, hk, Int.le_refl _⟩
  | succ N ih =>
    intro i bs hl hk
    by_cases hn : bs.Nodup
    · exact ⟨bs, hn, hk, Int.le_refl _⟩
    · obtain ⟨b, x, y, z, rfl⟩ := dup_split _ hn
      have hk1 := (wOk_app _ _ _).1 hk
      obtain ⟨ka, hb, kb, kc⟩ := hk1
      have kd := (wOk_app _ _ _).1 kc
      obtain ⟨ke, hb2, kf, kg⟩ := kd
      have iy := closed ho y.length b y (Nat.le_refl _) hb ((wOk_app _ _ _).2 ⟨ke, hb2, kf, trivial⟩)
      obtain ⟨cs, h1, h2, h3⟩ := ih i (x ++ (b :: z)) (by simp at hl ⊢; omega) ((wOk_app _ _ _).2 ⟨ka, hb, kb, kg⟩)
      refine ⟨cs, h1, h2, Int.le_trans ?_ h3⟩
      rw [wVal_app] at iy
      rw [wVal_app, wVal_app]
      simp only [wVal] at *
      rw [wVal_app]
      simp only [wVal]
      omega
theorem unplaced (ho : optS s who n m) (i : Nat) (hi : i < m) (hu : ∀ b, b < n → who b ≠ i) (bs : List Nat) (hk : wOk s who n i bs) : wVal s who i bs ≤ 0 := by
  obtain ⟨cs, h1, h2, h3⟩ := cut ho bs.length i bs (Nat.le_refl _) hk
  refine Int.le_trans h3 ?_
  cases cs with
  | nil => simp [wVal]
  | cons b cs =>
    have hlt := wOk_lt _ _ h2
    obtain ⟨⟨hv, hw⟩, hopt⟩ := ho
    obtain ⟨i1, i2⟩ := asg_inj hw cs b h2.1 h1 (fun x hx => hlt x (by simp [hx]))
    have hne : ∀ x, x < n → asg who (who b) cs x ≠ i := fun x hx e => by
      obtain ⟨z, hz, ez⟩ := asg_img (who := who) cs b x h2.1 (fun y hy => hlt y (by simp [hy])) hx
      exact hu z hz (by rw [← ez, e])
    have hF := hopt (asg who i (b :: cs)) ⟨asg_ok hv _ i hi h2, fun x y hx hy e => ?_⟩
    · rw [asg_tot _ _ h1 h2] at hF; omega
    · simp only [asg] at e
      by_cases ex : x = b <;> by_cases ey : y = b
      · omega
      · rw [if_pos ex, if_neg ey] at e; exact absurd e.symm (hne y hy)
      · rw [if_neg ex, if_pos ey] at e; exact absurd e (hne x hx)
      · rw [if_neg ex, if_neg ey] at e; exact i1 x y hx hy ex ey e
/-! ### The greatest gain -/
theorem mxE_nonneg (f : Nat → Int) : ∀ k, 0 ≤ mxE f k
  | 0 => by simp [mxE]
  | k + 1 => by have := mxE_nonneg f k; simp only [mxE]; omega
theorem mxE_ge (f : Nat → Int) : ∀ (k b : Nat), b < k → f b ≤ mxE f k
  | 0, b, h => by omega
  | k + 1, b, h => by
    simp only [mxE]
    rcases Nat.lt_or_eq_of_le (Nat.le_of_lt_succ h) with h' | rfl
    · have := mxE_ge f k b h'; omega
    · omega
theorem mxE_at (f : Nat → Int) : ∀ (k : Nat), mxE f k = 0 ∨ ∃ b, b < k ∧ mxE f k = f b
  | 0 => .inl rfl
  | k + 1 => by
    simp only [mxE]
    by_cases h : mxE f k ≤ f k
    · exact .inr ⟨k, by omega, by omega⟩
    · rcases mxE_at f k with h0 | ⟨b, hb, e⟩
      · exact .inl (by omega)
      · exact .inr ⟨b, by omega, by omega⟩
theorem eS_nonneg : ∀ (k i : Nat), 0 ≤ eS s who n k i
  | 0, i => by simp [eS]
  | k + 1, i => mxE_nonneg _ _
theorem eS_at : ∀ (k i : Nat), ∃ bs : List Nat, wOk s who n i bs ∧ bs.length ≤ k ∧ wVal s who i bs = eS s who n k i
  | 0, i => ⟨[], trivial, by simp, rfl⟩
  | k + 1, i => by
    simp only [eS]
    rcases mxE_at (fun b => if 0 < s i b then eS s who n k (who b) + cst s who i b else 0) n with h | ⟨b, hb, e⟩
    · exact ⟨[], trivial, by simp, by rw [h]; rfl⟩
    · by_cases c : 0 < s i b
      · obtain ⟨bs, h1, h2, h3⟩ := eS_at k (who b)
        refine ⟨b :: bs, ⟨hb, c, h1⟩, by simp; omega, ?_⟩
        rw [e, if_pos c]; simp only [wVal]; omega
      · exact ⟨[], trivial, by simp, by rw [e, if_neg c]; rfl⟩
theorem eS_ge : ∀ (k i : Nat) (bs : List Nat), wOk s who n i bs → bs.length ≤ k → wVal s who i bs ≤ eS s who n k i
  | k, i, [], _, _ => eS_nonneg k i
  | 0, i, b :: bs, _, h => by simp at h
  | k + 1, i, b :: bs, hk, h => by
    have ih := eS_ge k (who b) bs hk.2.2 (by simpa using h)
    have := mxE_ge (fun b => if 0 < s i b then eS s who n k (who b) + cst s who i b else 0) n b hk.1
    simp only [if_pos hk.2.1] at this
    simp only [eS, wVal]; omega
theorem eS_mono {k l : Nat} (h : k ≤ l) (i : Nat) : eS s who n k i ≤ eS s who n l i := by
  obtain ⟨bs, h1, h2, h3⟩ := eS_at (s := s) (who := who) (n := n) k i
  rw [← h3]; exact eS_ge l i bs h1 (by omega)
theorem eS_top (ho : optS s who n m) (i : Nat) (bs : List Nat) (hk : wOk s who n i bs) : wVal s who i bs ≤ eS s who n n i := by
  obtain ⟨cs, h1, h2, h3⟩ := cut ho bs.length i bs (Nat.le_refl _) hk
  exact Int.le_trans h3 (eS_ge n i cs h2 (nodup_le n cs h1 (wOk_lt _ _ h2)))
theorem eS_all (ho : optS s who n m) {k : Nat} (h : n ≤ k) (i : Nat) : eS s who n k i = eS s who n n i := by
  obtain ⟨bs, h1, h2, h3⟩ := eS_at (s := s) (who := who) (n := n) k i
  have a := eS_top ho i bs h1
  have b := eS_mono (s := s) (who := who) (n := n) h i
  omega
theorem eS_post (ho : optS s who n m) {i b : Nat} (hb : b < n) (hp : 0 < s i b) : eS s who n n (who b) + cst s who i b ≤ eS s who n n i := by
  obtain ⟨bs, h1, h2, h3⟩ := eS_at (s := s) (who := who) (n := n) n (who b)
  have := eS_top ho i (b :: bs) ⟨hb, hp, h1⟩
  simp only [wVal] at this; omega
theorem eS_free (ho : optS s who n m) {i : Nat} (hi : i < m) (hu : ∀ b, b < n → who b ≠ i) (k : Nat) : eS s who n k i = 0 := by
  obtain ⟨bs, h1, h2, h3⟩ := eS_at (s := s) (who := who) (n := n) k i
  have a := unplaced ho i hi hu bs h1
  have b := eS_nonneg (s := s) (who := who) (n := n) k i
  omega
theorem eS_bd (hs : ∀ i b, s i b ≤ 9) (h0 : ∀ b, b < n → 0 ≤ s (who b) b) : ∀ (k i : Nat), eS s who n k i ≤ 9 * k
  | 0, i => by simp [eS]
  | k + 1, i => by
    simp only [eS]
    rcases mxE_at (fun b => if 0 < s i b then eS s who n k (who b) + cst s who i b else 0) n with h | ⟨b, hb, e⟩
    · omega
    · have := eS_bd hs h0 k (who b)
      have h1 := hs i b
      have h2 := h0 b hb
      rw [e]; split
      · unfold cst; omega
      · omega
/-- What holds the law of prices is no less than what any chain gains. -/
theorem eS_least {q : Nat → Int} (hw : ∀ b, b < n → who b < m) (h0 : ∀ i, i < m → 0 ≤ q i) (hp : ∀ i b, i < m → b < n → 0 < s i b → q (who b) + cst s who i b ≤ q i) : ∀ (k i : Nat), i < m → eS s who n k i ≤ q i
  | 0, i, hi => h0 i hi
  | k + 1, i, hi => by
    simp only [eS]
    rcases mxE_at (fun b => if 0 < s i b then eS s who n k (who b) + cst s who i b else 0) n with h | ⟨b, hb, e⟩
    · rw [h]; exact h0 i hi
    · rw [e]; split
      · rename_i c
        have := eS_least hw h0 hp k (who b) (hw b hb)
        have := hp i b hi hb c; omega
      · exact h0 i hi
theorem eS_step {q : Nat → Int} {k i : Nat} (h0 : 0 ≤ q i) (h : ∀ b, b < n → 0 < s i b → eS s who n k (who b) + cst s who i b ≤ q i) : eS s who n (k + 1) i ≤ q i := by
  simp only [eS]
  rcases mxE_at (fun b => if 0 < s i b then eS s who n k (who b) + cst s who i b else 0) n with h' | ⟨b, hb, e⟩
  · rw [h']; exact h0
  · rw [e]; split
    · rename_i c; exact h b hb c
    · exact h0
end
end Go.Proofs.YtbfhfnejppfehaaDoor
