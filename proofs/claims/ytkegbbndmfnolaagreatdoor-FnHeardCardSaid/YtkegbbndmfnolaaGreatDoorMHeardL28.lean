import Derived.Lib.Split
import Derived.Lib.SplitLaws
import Derived.Lib.ItoaNum
import Derived.Test.YtkegbbndmfnolaaGreatDoorMHeardL06
import Derived.Test.YtkegbbndmfnolaaGreatDoorMHeardL05
import Derived.Test.YtkegbbndmfnolaaGreatDoorMHeardL00
/-
  Plain: a text cut at a byte; lines; canonical decimal numbers. No program.
-/
namespace SplT
open Go
set_option linter.unusedVariables false
set_option linter.unusedSimpArgs false

/-- A text cut at each c. -/
def cutAt (c : UInt8) : List UInt8 → List (List UInt8)
  | [] => [[]]
  | x :: r => if x = c then [] :: cutAt c r else match cutAt c r with
    | p :: q => (x :: p) :: q
    | [] => [[x]]
theorem cutAt_ne (c : UInt8) : ∀ s, cutAt c s ≠ []
  | [] => by simp [cutAt]
  | x :: r => by
    unfold cutAt
    split
    · simp
    · split <;> simp
theorem cutAt_hit {c : UInt8} : ∀ {p : List UInt8} (rest : List UInt8), c ∉ p → cutAt c (p ++ c :: rest) = p :: cutAt c rest
  | [], rest, _ => by simp [cutAt]
  | x :: p, rest, h => by
    have hx : x ≠ c := fun e => h (by simp [e])
    have ih := cutAt_hit (p := p) rest (fun hm => h (List.mem_cons_of_mem _ hm))
    simp only [List.cons_append, cutAt, if_neg hx, ih]
theorem cutAt_none {c : UInt8} : ∀ {p : List UInt8}, c ∉ p → cutAt c p = [p]
  | [], _ => rfl
  | x :: p, h => by
    have hx : x ≠ c := fun e => h (by simp [e])
    have ih := cutAt_none (p := p) (fun hm => h (List.mem_cons_of_mem _ hm))
    simp only [cutAt, if_neg hx, ih]
/-- Pieces put together with c between them. -/
def glue (c : UInt8) : List (List UInt8) → List UInt8
  | [] => []
  | [p] => p
  | p :: q :: r => p ++ c :: glue c (q :: r)
theorem glue_cons (c : UInt8) (p : List UInt8) {l : List (List UInt8)} (h : l ≠ []) : glue c (p :: l) = p ++ c :: glue c l := by
  cases l with
  | nil => exact absurd rfl h
  | cons q r => rfl
theorem glue_head (c x : UInt8) (p : List UInt8) (q : List (List UInt8)) : glue c ((x :: p) :: q) = x :: glue c (p :: q) := by
  cases q with
  | nil => rfl
  | cons r s => rfl
theorem glue_cut (c : UInt8) : ∀ s, glue c (cutAt c s) = s
  | [] => rfl
  | x :: r => by
    have ih := glue_cut c r
    unfold cutAt
    split
    · rename_i hx
      rw [glue_cons c _ (cutAt_ne c r), ih, hx]; rfl
    · cases h : cutAt c r with
      | nil => exact absurd h (cutAt_ne c r)
      | cons p q => rw [h] at ih; simp only; rw [glue_head, ih]
/-- Lines, each with its end. -/
def lines (c : UInt8) (l : List (List UInt8)) : List UInt8 := (l.map (· ++ [c])).flatten
theorem cut_lines (c : UInt8) : ∀ l : List (List UInt8), (∀ p ∈ l, c ∉ p) → cutAt c (lines c l) = l ++ [[]]
  | [], _ => rfl
  | p :: l, h => by
    have ih := cut_lines c l fun q hq => h q (by simp [hq])
    have e : lines c (p :: l) = p ++ c :: lines c l := by simp [lines]
    rw [e, cutAt_hit _ (h p (by simp)), ih]; rfl
theorem glue_lines (c : UInt8) : ∀ l : List (List UInt8), glue c (l ++ [[]]) = lines c l
  | [] => rfl
  | p :: l => by
    have ih := glue_lines c l
    rw [List.cons_append, glue_cons c p (by simp), ih]; simp [lines]
/-- The library's Split at one byte. -/
theorem index_cons_ne {b c : UInt8} {l : List UInt8} (h : b ≠ c) : Lib.index (b :: l) [c] = if Lib.index l [c] == -1 then -1 else Lib.index l [c] + 1 := by
  have hn : Lib.NoOcc (b :: l) [c] 1 := (Lib.NoOcc.zero _ _).succ (by simp [Lib.occAt, List.isPrefixOf, Ne.symm h])
  have := Lib.index_drop hn (by simp)
  simpa using this
theorem index_cons_eq {c : UInt8} {l : List UInt8} : Lib.index (c :: l) [c] = 0 := by
  refine Lib.index_hit (i := 0) (Lib.NoOcc.zero _ _) (Nat.zero_le _) (by simp [Lib.occAt])
theorem index_nil {c : UInt8} : Lib.index [] [c] = -1 := Lib.index_past (i := 0) (by simp) (Lib.NoOcc.zero _ _) (by simp)
theorem index_no {c : UInt8} : ∀ {p : List UInt8}, c ∉ p → Lib.index p [c] = -1
  | [], _ => index_nil
  | x :: p, h => by
    rw [index_cons_ne (fun e => h (by simp [e])), index_no (p := p) (fun hm => h (List.mem_cons_of_mem _ hm))]; rfl
theorem index_at {c : UInt8} : ∀ {p : List UInt8} (r : List UInt8), c ∉ p → Lib.index (p ++ c :: r) [c] = p.length
  | [], r, _ => by simp [index_cons_eq]
  | x :: p, r, h => by
    have ih := index_at (p := p) r (fun hm => h (List.mem_cons_of_mem _ hm))
    rw [List.cons_append, index_cons_ne (fun e => h (by simp [e])), ih]
    rw [if_neg (by simp)]; simp
theorem cut_form (c : UInt8) (s : List UInt8) : (c ∉ s) ∨ ∃ p r, s = p ++ c :: r ∧ c ∉ p := by
  induction s with
  | nil => exact .inl (by simp)
  | cons x s ih =>
    by_cases hx : x = c
    · exact .inr ⟨[], s, by simp [hx], by simp⟩
    · rcases ih with h | ⟨p, r, h1, h2⟩
      · exact .inl (fun hm => by rcases List.mem_cons.1 hm with e | hm; exact hx e.symm; exact h hm)
      · exact .inr ⟨x :: p, r, by simp [h1], fun hm => by rcases List.mem_cons.1 hm with e | hm; exact hx e.symm; exact h2 hm⟩
theorem split_cut (c : UInt8) : ∀ (k : Nat) (s : List UInt8), s.count c = k → Lib.splitK [c] 0 k s = cutAt c s
  | 0, s, h => by
    have hn : c ∉ s := fun hm => by have := List.count_pos_iff.2 hm; omega
    rw [cutAt_none hn]; rfl
  | k + 1, s, h => by
    rcases cut_form c s with hn | ⟨p, r, rfl, hp⟩
    · have := List.count_eq_zero.2 hn; omega
    · have hi := index_at r hp
      unfold Lib.splitK
      rw [hi, if_neg (by simp)]
      have hc : r.count c = k := by
        have h0 := List.count_eq_zero.2 hp
        rw [List.count_append, List.count_cons, h0] at h
        simp at h; omega
      rw [cutAt_hit _ hp, ← split_cut c k r hc]
      rw [show ((p.length : Int).toNat + [c].length) = p.length + 1 by simp, show ((p.length : Int).toNat + 0) = p.length by simp]
      rw [List.drop_append, List.take_append, List.drop_eq_nil_of_le (by omega : p.length ≤ p.length + 1)]
      simp
theorem lib_cut_hit {c : UInt8} {p r : List UInt8} (hp : c ∉ p) : Lib.cut (p ++ c :: r) [c] = (p, r, true) := by
  unfold Lib.cut
  rw [index_at r hp]
  simp
theorem lib_cut_no {c : UInt8} {s : List UInt8} (h : c ∉ s) : Lib.cut s [c] = (s, [], false) := by
  unfold Lib.cut
  rw [index_no h]
  simp
/-- The value of decimal digits. -/
def digVal (l : List UInt8) : Nat := l.foldl (fun n d => 10 * n + (d.toNat - 48)) 0
theorem digVal_snoc (l : List UInt8) (d : UInt8) : digVal (l ++ [d]) = 10 * digVal l + (d.toNat - 48) := by simp [digVal]
def isDig (d : UInt8) : Prop := 48 ≤ d.toNat ∧ d.toNat ≤ 57
/-- A number in its one form. -/
def canon (l : List UInt8) : Prop := l ≠ [] ∧ (∀ d ∈ l, isDig d) ∧ (l.length = 1 ∨ l.head? ≠ some 48)
theorem rev_ind {α : Type} {P : List α → Prop} (h0 : P []) (h1 : ∀ l x, P l → P (l ++ [x])) (l : List α) : P l := by
  have : ∀ m : List α, P m.reverse := fun m => by
    induction m with
    | nil => simpa using h0
    | cons x m ih => rw [List.reverse_cons]; exact h1 _ _ ih
  simpa using this l.reverse
theorem digVal_pos {l : List UInt8} : ∀ {d : UInt8}, l.head? = some d → d ≠ 48 → (∀ x ∈ l, isDig x) → 1 ≤ digVal l := by
  refine rev_ind (P := fun l => ∀ {d : UInt8}, l.head? = some d → d ≠ 48 → (∀ x ∈ l, isDig x) → 1 ≤ digVal l) ?_ ?_ l
  · intro d h; simp at h
  · intro l x ih d h hd hall
    rw [digVal_snoc]
    cases l with
    | nil =>
      simp at h
      subst h
      have h1 := hall x (by simp)
      have h2 : x.toNat ≠ 48 := fun e => hd (by apply UInt8.toNat_inj.1; simpa using e)
      unfold isDig at h1
      simp [digVal]; omega
    | cons y l =>
      have := ih (d := d) (by simpa using h) hd (fun z hz => hall z (List.mem_append.2 (.inl hz)))
      omega
theorem of48 {d : UInt8} (h : isDig d) : UInt8.ofNat (48 + (d.toNat - 48)) = d := by
  unfold isDig at h
  rw [show 48 + (d.toNat - 48) = d.toNat by omega]
  simp
theorem canon_dec {l : List UInt8} : canon l → Lib.decDigits (digVal l) = l := by
  refine rev_ind (P := fun l => canon l → Lib.decDigits (digVal l) = l) ?_ ?_ l
  · intro h; exact absurd rfl h.1
  · intro l x ih ⟨_, hall, hh⟩
    have hx := hall x (by simp)
    have hx2 := hx
    unfold isDig at hx2
    cases l with
    | nil =>
      have e : digVal ([] ++ [x]) = x.toNat - 48 := by simp [digVal]
      rw [e, Lib.decDigits_one (by omega), of48 hx]; rfl
    | cons y l =>
      have hy : (y :: l).head? = some y := rfl
      have hne : y ≠ 48 := by
        rcases hh with hh | hh
        · simp at hh
        · intro e; apply hh; simp [e]
      have hall2 : ∀ d ∈ y :: l, isDig d := fun z hz => hall z (List.mem_append.2 (.inl hz))
      have hc : canon (y :: l) := ⟨by simp, hall2, .inr (by simpa using hne)⟩
      have h1 := digVal_pos hy hne hall2
      have ih' := ih hc
      rw [digVal_snoc, Lib.decDigits, dif_neg (by omega)]
      rw [show (10 * digVal (y :: l) + (x.toNat - 48)) / 10 = digVal (y :: l) by omega, show (10 * digVal (y :: l) + (x.toNat - 48)) % 10 = x.toNat - 48 by omega, ih', of48 hx]
theorem dec_canon (n : Nat) : canon (Lib.decDigits n) ∧ digVal (Lib.decDigits n) = n := by
  induction n using Nat.strongRecOn with
  | ind n ih =>
    by_cases h : n < 10
    · rw [Lib.decDigits_one h]
      have e : (UInt8.ofNat (48 + n)).toNat = 48 + n := by show (48 + n) % 256 = _; omega
      refine ⟨⟨by simp, fun d hd => ?_, .inl rfl⟩, ?_⟩
      · rw [List.mem_singleton] at hd; subst hd; unfold isDig; omega
      · show 10 * 0 + ((UInt8.ofNat (48 + n)).toNat - 48) = n; rw [e]; omega
    · rw [Lib.decDigits, dif_neg h]
      obtain ⟨⟨h1, h2, h3⟩, h4⟩ := ih (n / 10) (by omega)
      have e : (UInt8.ofNat (48 + n % 10)).toNat = 48 + n % 10 := by show (48 + n % 10) % 256 = _; omega
      refine ⟨⟨by simp, fun d hd => ?_, .inr ?_⟩, ?_⟩
      · rcases List.mem_append.1 hd with hd | hd
        · exact h2 d hd
        · rw [List.mem_singleton] at hd; subst hd; unfold isDig; omega
      · cases hl : Lib.decDigits (n / 10) with
        | nil => exact absurd hl h1
        | cons y l =>
          rw [hl] at h2 h3 h4
          simp only [List.cons_append, List.head?_cons]
          intro e2
          injection e2 with e2
          subst e2
          rcases h3 with h3 | h3
          · have : l = [] := List.eq_nil_of_length_eq_zero (by simpa using h3)
            subst this
            simp [digVal] at h4
            omega
          · exact h3 rfl
      · rw [digVal_snoc, h4, e]; omega
end SplT

/-
  Texts cut at a byte, numbers read: contracts of both sides.
-/
namespace Go.Proofs.YtkegbbndmfnolaaGreatDoor
open Go.RowKit
set_option linter.unusedVariables false
set_option linter.unusedSimpArgs false
set_option maxRecDepth 100000

theorem bat_get {s : ByteArray} {i : Nat} (h : i < s.data.toList.length) : bat s (i : Int) = (s.data.toList[i].toNat : Int) := by
  unfold bat
  rw [Int.toNat_natCast, List.getD_eq_getElem?_getD, List.getElem?_eq_getElem h]; rfl
/-- The pieces of a text. -/
def splitS (c : UInt8) (s : ByteArray) : List ByteArray := (SplT.cutAt c s.data.toList).map fun l => ⟨l.toArray⟩
/-- Behind the first i bytes: the pieces so far; the rest begins at f. -/
def SpAt (c : UInt8) (s : ByteArray) (l : List ByteArray) (f i : Nat) : Prop :=
  SplT.cutAt c s.data.toList = l.map (·.data.toList) ++ SplT.cutAt c (s.data.toList.drop f) ∧ f ≤ i ∧ i ≤ s.size ∧ l.length ≤ i ∧ ∀ j, f ≤ j → j < i → bat s (j : Int) ≠ (c.toNat : Int)
theorem SpAt.start (c : UInt8) (s : ByteArray) : SpAt c s [] 0 0 := ⟨by simp, by omega, by omega, by simp, fun j _ h => by omega⟩
theorem SpAt.no {c : UInt8} {s : ByteArray} {l : List ByteArray} {f i : Nat} (h : SpAt c s l f i) : c ∉ (s.data.toList.drop f).take (i - f) := by
  intro hm
  obtain ⟨j, hj, e⟩ := List.getElem_of_mem hm
  have hl : j < i - f := by simp at hj; omega
  have hs : s.data.toList.length = s.size := rfl
  have h4 := h.2.2.1
  have := h.2.2.2.2 (f + j) (by omega) (by omega)
  apply this
  rw [bat_get (by rw [hs]; omega)]
  rw [List.getElem_take, List.getElem_drop] at e
  rw [e]
theorem ext_data (s : ByteArray) (a b : Nat) : (s.extract a b).data.toList = (s.data.toList.drop a).take (b - a) := by
  rw [Lib.extract_data]
theorem SpAt.skip {c : UInt8} {s : ByteArray} {l : List ByteArray} {f i : Nat} (h : SpAt c s l f i) (hi : i < s.size) (hb : bat s (i : Int) ≠ (c.toNat : Int)) : SpAt c s l f (i + 1) :=
  ⟨h.1, by have := h.2.1; omega, by omega, by have := h.2.2.2.1; omega, fun j h1 h2 => by
    rcases Nat.lt_or_eq_of_le (Nat.le_of_lt_succ h2) with h3 | rfl
    · exact h.2.2.2.2 j h1 h3
    · exact hb⟩
theorem SpAt.hit {c : UInt8} {s : ByteArray} {l : List ByteArray} {f i : Nat} (h : SpAt c s l f i) (hi : i < s.size) (hb : bat s (i : Int) = (c.toNat : Int)) : SpAt c s (l ++ [s.extract f i]) (i + 1) (i + 1) := by
  have hs : s.data.toList.length = s.size := rfl
  have hno := h.no
  obtain ⟨h1, h2, h3, h4, h5⟩ := h
  refine ⟨?_, Nat.le_refl _, by omega, by simp; omega, fun j a b => by omega⟩
  have hc : s.data.toList[i]'(by omega) = c := by
    rw [bat_get (by omega)] at hb
    exact UInt8.toNat_inj.1 (by omega)
  have hd : s.data.toList.drop f = (s.data.toList.drop f).take (i - f) ++ c :: s.data.toList.drop (i + 1) := by
    have e1 : (s.data.toList.drop f).drop (i - f) = s.data.toList.drop i := by rw [List.drop_drop]; congr 1; omega
    have e2 : s.data.toList.drop i = c :: s.data.toList.drop (i + 1) := by rw [← hc]; exact List.drop_eq_getElem_cons (by omega)
    rw [← e2, ← e1, List.take_append_drop]
  rw [h1, hd, SplT.cutAt_hit _ hno, List.map_append]
  simp [ext_data]
theorem SpAt.done {c : UInt8} {s : ByteArray} {l : List ByteArray} {f : Nat} (h : SpAt c s l f s.size) : splitS c s = l ++ [s.extract f s.size] := by
  have hs : s.data.toList.length = s.size := rfl
  have hno := h.no
  have e : (s.data.toList.drop f).take (s.size - f) = s.data.toList.drop f := List.take_of_length_le (by rw [List.length_drop]; omega)
  rw [e] at hno
  unfold splitS
  rw [h.1, SplT.cutAt_none hno, List.map_append]
  congr 1
  · rw [List.map_map]
    conv => rhs; rw [← List.map_id l]
    exact List.map_congr_left fun x _ => by simp
  · simp only [List.map_cons, List.map_nil]
    congr 1
    apply ByteArray.ext
    apply Array.ext'
    rw [ext_data, e]
theorem splitS_len (c : UInt8) (s : ByteArray) : 0 < (splitS c s).length := by
  unfold splitS
  rw [List.length_map]
  exact List.length_pos_iff.2 (SplT.cutAt_ne c _)

set_option maxHeartbeats 1600000 in
theorem l1Split_any (s : ByteArray) (c : UInt8) (w : World) (hsz : s.size ≤ 1048576) :
    Calls Tryz.prog 92 #[.string s, .int .u8 (c.toNat : Int)] w fun e w' => ∃ A cc, e = .returned (.slice A (splitS c s).length cc) ∧ (splitS c s).length ≤ cc ∧ OwnL w' w.heap.size w'.heap.size A 1 encString (splitS c s) ∧ Below w.heap.size w w' := by
  obtain ⟨cI, hcI⟩ : ∃ cI : Int, Hid ((c.toNat : Int) = cI) := ⟨_, Lib.hid rfl⟩
  rw [hcI.out]
  have Hone : Hid (∀ X : ByteArray, ∀ u ∈ [Value.string X], u.oneCell' = true) := Lib.hid (by intro x u hu; simp at hu; subst hu; rfl)
  go_enter Tryz.func92, Tryz.ntmps92
  go_wp2
  go_loopw [5, 6, 7] (fun v fv i wr => ∃ (k f : Nat) (l : List ByteArray), fv = .int .i64 (f : Int) ∧ i = .int .i64 (k : Int) ∧ k ≤ s.size ∧ f ≤ k ∧ l.length ≤ k ∧ Hid (SpAt c s l f k) ∧ Grow wr w.heap.size 9 1 encString v l ∧ Below w.heap.size w wr) (fun _ _ i _ => s.size - (intOf i).toNat)
  case atStart => exact ⟨0, 0, [], by rfl, by rfl, by omega, by omega, by simp, Lib.hid (SpAt.start c s), Grow.nil, Below.refl _ _⟩
  case round =>
    obtain ⟨k, f, l, rfl, rfl, hk, hfk, hlk, hsp, hgr, hbl⟩ := hrel
    have HGr := Lib.hid hgr
    have Hbl := Lib.hid hbl
    have hz := hbl.size
    clear hgr hbl
    by_cases hlt : k < s.size
    · obtain ⟨b, hb⟩ : ∃ b, Hid (bat s (k : Int) = b) := ⟨_, Lib.hid rfl⟩
      by_cases hc : b = cI
      · have hsp2 : Hid (SpAt c s (l ++ [s.extract f k]) (k + 1) (k + 1)) := Lib.hid (hsp.out.hit hlt (by rw [hb.out, hcI.out]; exact hc))
        have e1 : (bat s (k : Int) == cI) = true := by rw [hb.out]; simpa using hc
        clear hc
        go_wp2_with (at_builtin; refine wpList_pushA rfl (.tmp 19) (.tmp 24) 24 rfl w.heap.size 9 _ 1 16 encString rfl String_info rfl (by omega) u5 l [(s.extract f k)] 1 rfl rfl (by simp) HGr.out rfl encString_len (Hone.out _) (by simp only [List.length_singleton]; omega) (by omega) (by omega) ?_; intro av aw ag ab agb ak)
        go_roundw
        case rel => exact ⟨k + 1, k + 1, l ++ [s.extract f k], by go_num, by go_num, by omega, by omega, by simp; omega, hsp2, ag, Hbl.out.trans ab⟩
        case measure => simp [intOf]; omega
      · have hsp2 : Hid (SpAt c s l f (k + 1)) := Lib.hid (hsp.out.skip hlt (by rw [hb.out, hcI.out]; exact hc))
        have e1 : (bat s (k : Int) == cI) = false := by rw [hb.out]; simpa using hc
        clear hc
        go_wp2
        go_roundw
        case rel => exact ⟨k + 1, f, l, by rfl, by go_num, by omega, by omega, by omega, hsp2, HGr.out, Hbl.out⟩
        case measure => simp [intOf]; omega
    · obtain rfl : k = s.size := by omega
      go_wp2_with (at_builtin; refine wpList_pushA rfl (.tmp 28) (.tmp 32) 24 rfl w.heap.size 9 _ 1 16 encString rfl String_info rfl (by omega) u5 l [(s.extract f s.size)] 1 rfl rfl (by simp) HGr.out rfl encString_len (Hone.out _) (by simp only [List.length_singleton]; omega) (by omega) (by omega) ?_; intro av aw ag ab agb ak)
      go_ret
      have he := hsp.out.done
      rw [← he] at ag
      obtain ⟨A, cc, hv, ho⟩ := ag.own encString_len
      subst hv
      exact ⟨A, cc, rfl, ag.capN, ho, Hbl.out.trans ab⟩
end Go.Proofs.YtkegbbndmfnolaaGreatDoor
