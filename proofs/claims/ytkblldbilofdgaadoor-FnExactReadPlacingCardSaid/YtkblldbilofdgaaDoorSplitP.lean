/-
  Plain: a text cut at a byte; lines; canonical decimal numbers. No program.
-/
import Derived.Lib.Split
import Derived.Lib.SplitLaws
import Derived.Lib.ItoaNum
namespace SplT
open Go
set_option linter.unusedVariables false
set_option linter.unusedSimpArgs false

/-- A text cut at each c. -/
def cutAt (c : UInt8) : List UInt8 → List (List UInt8)
  | [] => [[]]
  | x :: r => if x = c then [] :: cutAt c r else match cutAt c r with
    | p :: q => (x :: p) :: q
    | [] => [[x]]
theorem cutAt_ne (c : UInt8) : ∀ s, cutAt c s ≠ []
  | [] => by simp [cutAt]
  | x :: r => by
    unfold cutAt
    split
    · simp
    · split <;> simp
theorem cutAt_hit {c : UInt8} : ∀ {p : List UInt8} (rest : List UInt8), c ∉ p → cutAt c (p ++ c :: rest) = p :: cutAt c rest
  | [], rest, _ => by simp [cutAt]
  | x :: p, rest, h => by
    have hx : x ≠ c := fun e => h (by simp [e])
    have ih := cutAt_hit (p := p) rest (fun hm => h (List.mem_cons_of_mem _ hm))
    simp only [List.cons_append, cutAt, if_neg hx, ih]
theorem cutAt_none {c : UInt8} : ∀ {p : List UInt8}, c ∉ p → cutAt c p = [p]
  | [], _ => rfl
  | x :: p, h => by
    have hx : x ≠ c := fun e => h (by simp [e])
    have ih := cutAt_none (p := p) (fun hm => h (List.mem_cons_of_mem _ hm))
    simp only [cutAt, if_neg hx, ih]
/-- Pieces put together with c between them. -/
def glue (c : UInt8) : List (List UInt8) → List UInt8
  | [] => []
  | [p] => p
  | p :: q :: r => p ++ c :: glue c (q :: r)
theorem glue_cons (c : UInt8) (p : List UInt8) {l : List (List UInt8)} (h : l ≠ []) : glue c (p :: l) = p ++ c :: glue c l := by
  cases l with
  | nil => exact absurd rfl h
  | cons q r => rfl
theorem glue_head (c x : UInt8) (p : List UInt8) (q : List (List UInt8)) : glue c ((x :: p) :: q) = x :: glue c (p :: q) := by
  cases q with
  | nil => rfl
  | cons r s => rfl
theorem glue_cut (c : UInt8) : ∀ s, glue c (cutAt c s) = s
  | [] => rfl
  | x :: r => by
    have ih := glue_cut c r
    unfold cutAt
    split
    · rename_i hx
      rw [glue_cons c _ (cutAt_ne c r), ih, hx]; rfl
    · cases h : cutAt c r with
      | nil => exact absurd h (cutAt_ne c r)
      | cons p q => rw [h] at ih; simp only; rw [glue_head, ih]
theorem cut_no (c : UInt8) : ∀ s p, p ∈ cutAt c s → c ∉ p
  | [], p, h => by simp [cutAt] at h; subst h; simp
  | x :: r, p, h => by
    unfold cutAt at h
    split at h
    · rcases List.mem_cons.1 h with rfl | h
      · simp
      · exact cut_no c r p h
    · rename_i hx
      cases hc : cutAt c r with
      | nil => exact absurd hc (cutAt_ne c r)
      | cons q l =>
        rw [hc] at h
        simp only at h
        rcases List.mem_cons.1 h with rfl | h
        · intro hm
          rcases List.mem_cons.1 hm with e | hm
          · exact hx e.symm
          · exact cut_no c r q (by rw [hc]; simp) hm
        · exact cut_no c r p (by rw [hc]; simp [h])
/-- Lines, each with its end. -/
def lines (c : UInt8) (l : List (List UInt8)) : List UInt8 := (l.map (· ++ [c])).flatten
theorem cut_lines (c : UInt8) : ∀ l : List (List UInt8), (∀ p ∈ l, c ∉ p) → cutAt c (lines c l) = l ++ [[]]
  | [], _ => rfl
  | p :: l, h => by
    have ih := cut_lines c l fun q hq => h q (by simp [hq])
    have e : lines c (p :: l) = p ++ c :: lines c l := by simp [lines]
    rw [e, cutAt_hit _ (h p (by simp)), ih]; rfl
theorem glue_lines (c : UInt8) : ∀ l : List (List UInt8), glue c (l ++ [[]]) = lines c l
  | [] => rfl
  | p :: l => by
    have ih := glue_lines c l
    rw [List.cons_append, glue_cons c p (by simp), ih]; simp [lines]
/-- The library's Split at one byte. -/
theorem index_cons_ne {b c : UInt8} {l : List UInt8} (h : b ≠ c) : Lib.index (b :: l) [c] = if Lib.index l [c] == -1 then -1 else Lib.index l [c] + 1 := by
  have hn : Lib.NoOcc (b :: l) [c] 1 := (Lib.NoOcc.zero _ _).succ (by simp [Lib.occAt, List.isPrefixOf, Ne.symm h])
  have := Lib.index_drop hn (by simp)
  simpa using this
theorem index_cons_eq {c : UInt8} {l : List UInt8} : Lib.index (c :: l) [c] = 0 := by
  refine Lib.index_hit (i := 0) (Lib.NoOcc.zero _ _) (Nat.zero_le _) (by simp [Lib.occAt])
theorem index_nil {c : UInt8} : Lib.index [] [c] = -1 := Lib.index_past (i := 0) (by simp) (Lib.NoOcc.zero _ _) (by simp)
theorem index_no {c : UInt8} : ∀ {p : List UInt8}, c ∉ p → Lib.index p [c] = -1
  | [], _ => index_nil
  | x :: p, h => by
    rw [index_cons_ne (fun e => h (by simp [e])), index_no (p := p) (fun hm => h (List.mem_cons_of_mem _ hm))]; rfl
theorem index_at {c : UInt8} : ∀ {p : List UInt8} (r : List UInt8), c ∉ p → Lib.index (p ++ c :: r) [c] = p.length
  | [], r, _ => by simp [index_cons_eq]
  | x :: p, r, h => by
    have ih := index_at (p := p) r (fun hm => h (List.mem_cons_of_mem _ hm))
    rw [List.cons_append, index_cons_ne (fun e => h (by simp [e])), ih]
    rw [if_neg (by simp)]; simp
theorem cut_form (c : UInt8) (s : List UInt8) : (c ∉ s) ∨ ∃ p r, s = p ++ c :: r ∧ c ∉ p := by
  induction s with
  | nil => exact .inl (by simp)
  | cons x s ih =>
    by_cases hx : x = c
    · exact .inr ⟨[], s, by simp [hx], by simp⟩
    · rcases ih with h | ⟨p, r, h1, h2⟩
      · exact .inl (fun hm => by rcases List.mem_cons.1 hm with e | hm; exact hx e.symm; exact h hm)
      · exact .inr ⟨x :: p, r, by simp [h1], fun hm => by rcases List.mem_cons.1 hm with e | hm; exact hx e.symm; exact h2 hm⟩
theorem split_cut (c : UInt8) : ∀ (k : Nat) (s : List UInt8), s.count c = k → Lib.splitK [c] 0 k s = cutAt c s
  | 0, s, h => by
    have hn : c ∉ s := fun hm => by have := List.count_pos_iff.2 hm; omega
    rw [cutAt_none hn]; rfl
  | k + 1, s, h => by
    rcases cut_form c s with hn | ⟨p, r, rfl, hp⟩
    · have := List.count_eq_zero.2 hn; omega
    · have hi := index_at r hp
      unfold Lib.splitK
      rw [hi, if_neg (by simp)]
      have hc : r.count c = k := by
        have h0 := List.count_eq_zero.2 hp
        rw [List.count_append, List.count_cons, h0] at h
        simp at h; omega
      rw [cutAt_hit _ hp, ← split_cut c k r hc]
      rw [show ((p.length : Int).toNat + [c].length) = p.length + 1 by simp, show ((p.length : Int).toNat + 0) = p.length by simp]
      rw [List.drop_append, List.take_append, List.drop_eq_nil_of_le (by omega : p.length ≤ p.length + 1)]
      simp
theorem lib_cut_hit {c : UInt8} {p r : List UInt8} (hp : c ∉ p) : Lib.cut (p ++ c :: r) [c] = (p, r, true) := by
  unfold Lib.cut
  rw [index_at r hp]
  simp
theorem lib_cut_no {c : UInt8} {s : List UInt8} (h : c ∉ s) : Lib.cut s [c] = (s, [], false) := by
  unfold Lib.cut
  rw [index_no h]
  simp
/-- The value of decimal digits. -/
def digVal (l : List UInt8) : Nat := l.foldl (fun n d => 10 * n + (d.toNat - 48)) 0
theorem digVal_snoc (l : List UInt8) (d : UInt8) : digVal (l ++ [d]) = 10 * digVal l + (d.toNat - 48) := by simp [digVal]
def isDig (d : UInt8) : Prop := 48 ≤ d.toNat ∧ d.toNat ≤ 57
/-- A number in its one form. -/
def canon (l : List UInt8) : Prop := l ≠ [] ∧ (∀ d ∈ l, isDig d) ∧ (l.length = 1 ∨ l.head? ≠ some 48)
theorem rev_ind {α : Type} {P : List α → Prop} (h0 : P []) (h1 : ∀ l x, P l → P (l ++ [x])) (l : List α) : P l := by
  have : ∀ m : List α, P m.reverse := fun m => by
    induction m with
    | nil => simpa using h0
    | cons x m ih => rw [List.reverse_cons]; exact h1 _ _ ih
  simpa using this l.reverse
theorem digVal_pos {l : List UInt8} : ∀ {d : UInt8}, l.head? = some d → d ≠ 48 → (∀ x ∈ l, isDig x) → 1 ≤ digVal l := by
  refine rev_ind (P := fun l => ∀ {d : UInt8}, l.head? = some d → d ≠ 48 → (∀ x ∈ l, isDig x) → 1 ≤ digVal l) ?_ ?_ l
  · intro d h; simp at h
  · intro l x ih d h hd hall
    rw [digVal_snoc]
    cases l with
    | nil =>
      simp at h
      subst h
      have h1 := hall x (by simp)
      have h2 : x.toNat ≠ 48 := fun e => hd (by apply UInt8.toNat_inj.1; simpa using e)
      unfold isDig at h1
      simp [digVal]; omega
    | cons y l =>
      have := ih (d := d) (by simpa using h) hd (fun z hz => hall z (List.mem_append.2 (.inl hz)))
      omega
theorem of48 {d : UInt8} (h : isDig d) : UInt8.ofNat (48 + (d.toNat - 48)) = d := by
  unfold isDig at h
  rw [show 48 + (d.toNat - 48) = d.toNat by omega]
  simp
theorem canon_dec {l : List UInt8} : canon l → Lib.decDigits (digVal l) = l := by
  refine rev_ind (P := fun l => canon l → Lib.decDigits (digVal l) = l) ?_ ?_ l
  · intro h; exact absurd rfl h.1
  · intro l x ih ⟨_, hall, hh⟩
    have hx := hall x (by simp)
    have hx2 := hx
    unfold isDig at hx2
    cases l with
    | nil =>
      have e : digVal ([] ++ [x]) = x.toNat - 48 := by simp [digVal]
      rw [e, Lib.decDigits_one (by omega), of48 hx]; rfl
    | cons y l =>
      have hy : (y :: l).head? = some y := rfl
      have hne : y ≠ 48 := by
        rcases hh with hh | hh
        · simp at hh
        · intro e; apply hh; simp [e]
      have hall2 : ∀ d ∈ y :: l, isDig d := fun z hz => hall z (List.mem_append.2 (.inl hz))
      have hc : canon (y :: l) := ⟨by simp, hall2, .inr (by simpa using hne)⟩
      have h1 := digVal_pos hy hne hall2
      have ih' := ih hc
      rw [digVal_snoc, Lib.decDigits, dif_neg (by omega)]
      rw [show (10 * digVal (y :: l) + (x.toNat - 48)) / 10 = digVal (y :: l) by omega, show (10 * digVal (y :: l) + (x.toNat - 48)) % 10 = x.toNat - 48 by omega, ih', of48 hx]
theorem dec_canon (n : Nat) : canon (Lib.decDigits n) ∧ digVal (Lib.decDigits n) = n := by
  induction n using Nat.strongRecOn with
  | ind n ih =>
    by_cases h : n < 10
    · rw [Lib.decDigits_one h]
      have e : (UInt8.ofNat (48 + n)).toNat = 48 + n := by show (48 + n) % 256 = _; omega
      refine ⟨⟨by simp, fun d hd => ?_, .inl rfl⟩, ?_⟩
      · rw [List.mem_singleton] at hd; subst hd; unfold isDig; omega
      · show 10 * 0 + ((UInt8.ofNat (48 + n)).toNat - 48) = n; rw [e]; omega
    · rw [Lib.decDigits, dif_neg h]
      obtain ⟨⟨h1, h2, h3⟩, h4⟩ := ih (n / 10) (by omega)
      have e : (UInt8.ofNat (48 + n % 10)).toNat = 48 + n % 10 := by show (48 + n % 10) % 256 = _; omega
      refine ⟨⟨by simp, fun d hd => ?_, .inr ?_⟩, ?_⟩
      · rcases List.mem_append.1 hd with hd | hd
        · exact h2 d hd
        · rw [List.mem_singleton] at hd; subst hd; unfold isDig; omega
      · cases hl : Lib.decDigits (n / 10) with
        | nil => exact absurd hl h1
        | cons y l =>
          rw [hl] at h2 h3 h4
          simp only [List.cons_append, List.head?_cons]
          intro e2
          injection e2 with e2
          subst e2
          rcases h3 with h3 | h3
          · have : l = [] := List.eq_nil_of_length_eq_zero (by simpa using h3)
            subst this
            simp [digVal] at h4
            omega
          · exact h3 rfl
      · rw [digVal_snoc, h4, e]; omega
end SplT
