/-
  SideSwaps of the program returns what the reference's returns, for all arguments: no condition.
-/
import Derived.Test.YtdecjijldcbnjaaSwap
import Derived.Test.YtdecjijldcbnjaaGrow
import Derived.Test.YtdecjijldcbnjaaTyInt
import Derived.Test.YtdecjijldcbnjaaRow
namespace Go.Proofs.Ytdecjijldcbnjaa
open Go.RowKit
set_option linter.unusedVariables false
set_option linter.unusedSimpArgs false
set_option maxRecDepth 100000

/-! ### The plain law: the first descent is exchanged till there is none -/
/-- The place in b of the bell at a place of c. -/
def plc (b c : ByteArray) (j : Nat) : Int := placeS b (bat c j - 48)
def firstD (p : Nat → Int) : Nat → Nat → Nat
  | i, 0 => i
  | i, k + 1 => if p i < p (i + 1) then firstD p (i + 1) k else i
theorem firstD_eq (p : Nat → Int) (n i : Nat) (hi : i ≤ n) (h1 : ∀ j, j < i → p j < p (j + 1)) (h2 : i = n ∨ ¬ p i < p (i + 1)) : ∀ (k s : Nat), s + k = n → s ≤ i → firstD p s k = i := by
  intro k
  induction k with
  | zero => intro s hs hle; show s = i; omega
  | succ k ih =>
    intro s hs hle
    unfold firstD
    by_cases e : s = i
    · subst e
      rcases h2 with h | h
      · omega
      · rw [if_neg h]
    · rw [if_pos (h1 s (by omega))]
      exact ih (s + 1) (by omega) (by omega)
/-- The exchange of the bells at two neighbouring places. -/
def side (c : ByteArray) (i : Nat) : ByteArray := swapS c (bat c i - 48) (bat c (i + 1 : Nat) - 48)
def bubS (b : ByteArray) : Nat → ByteArray → List Int
  | 0, _ => []
  | f + 1, c =>
    let i := firstD (plc b c) 0 (c.size - 1)
    if i = c.size - 1 then [] else ((i : Int) + 1) :: bubS b f (side c i)
theorem bubS_len (b : ByteArray) : ∀ (f : Nat) (c : ByteArray), (bubS b f c).length ≤ f
  | 0, _ => by simp [bubS]
  | f + 1, c => by
    simp only [bubS]
    split
    · simp
    · simp; exact bubS_len b f _
theorem bubS_done (b : ByteArray) (f : Nat) (c : ByteArray) (h : ∀ j, j < c.size - 1 → plc b c j < plc b c (j + 1)) : bubS b f c = [] := by
  cases f with
  | zero => rfl
  | succ f => simp only [bubS]; rw [firstD_eq (plc b c) (c.size - 1) (c.size - 1) (Nat.le_refl _) h (.inl rfl) _ 0 (by omega) (by omega), if_pos rfl]
theorem bubS_step (b : ByteArray) (f : Nat) (c : ByteArray) (i : Nat) (hi : i < c.size - 1) (h : ∀ j, j < i → plc b c j < plc b c (j + 1)) (hn : ¬ plc b c i < plc b c (i + 1)) : bubS b (f + 1) c = ((i : Int) + 1) :: bubS b f (side c i) := by
  simp only [bubS]
  rw [firstD_eq (plc b c) (c.size - 1) i (by omega) h (.inr hn) _ 0 (by omega) (by omega), if_neg (by omega)]
/-- What grows at every exchange. -/
def pot (p : Nat → Int) : Nat → Int
  | 0 => 0
  | n + 1 => pot p n + n * p n
theorem pot_same (p q : Nat → Int) : ∀ n, (∀ j, j < n → q j = p j) → pot q n = pot p n
  | 0, _ => rfl
  | n + 1, h => by simp only [pot]; rw [pot_same p q n (fun j hj => h j (by omega)), h n (by omega)]
theorem pot_swap (p q : Nat → Int) (i : Nat) : ∀ n, i + 1 < n → (∀ j, j < n → j ≠ i → j ≠ i + 1 → q j = p j) → q i = p (i + 1) → q (i + 1) = p i → pot q n = pot p n + p i - p (i + 1)
  | 0, h, _, _, _ => by omega
  | n + 1, h, hs, h1, h2 => by
    by_cases e : n = i + 1
    · subst e
      simp only [pot]
      rw [pot_same p q i (fun j hj => hs j (by omega) (by omega) (by omega)), h1, h2]
      have e1 : ((i + 1 : Nat) : Int) * p i = i * p i + p i := by rw [Int.natCast_succ, Int.add_mul, Int.one_mul]
      have e2 : ((i + 1 : Nat) : Int) * p (i + 1) = i * p (i + 1) + p (i + 1) := by rw [Int.natCast_succ, Int.add_mul, Int.one_mul]
      rw [e1, e2]; omega
    · simp only [pot]
      rw [pot_swap p q i n (by omega) (fun j hj => hs j (by omega)) h1 h2, hs n (by omega) (by omega) (by omega)]
      omega
theorem pot_le (p : Nat → Int) : ∀ n, n ≤ 8 → (∀ j, j < n → 0 ≤ p j ∧ p j ≤ 8) → pot p n ≤ 64 * n
  | 0, _, _ => by simp [pot]
  | n + 1, h, hp => by
    simp only [pot]
    have h1 := pot_le p n (by omega) (fun j hj => hp j (by omega))
    obtain ⟨h2, h3⟩ := hp n (by omega)
    have h4 : (n : Int) * p n ≤ 8 * 8 := Int.mul_le_mul (by omega) h3 h2 (by omega)
    omega
theorem plc_in (b c : ByteArray) (hb : isRow b) (hc : isRow c) (e : c.size = b.size) (j : Nat) (hj : j < c.size) : 1 ≤ plc b c j ∧ plc b c j ≤ b.size := by
  have := hc.2.2.1 j hj
  obtain ⟨i, hi, hv⟩ := hb.hit (v := bat c j) (by omega) (by omega)
  unfold plc
  rw [← hv, hb.place hi]
  omega
theorem plc_inj (b c : ByteArray) (hb : isRow b) (hc : isRow c) (e : c.size = b.size) (i j : Nat) (hi : i < c.size) (hj : j < c.size) (h : plc b c i = plc b c j) : i = j := by
  have h1 := hc.2.2.1 i hi
  have h2 := hc.2.2.1 j hj
  obtain ⟨x, hx, ex⟩ := hb.hit (v := bat c i) (by omega) (by omega)
  obtain ⟨y, hy, ey⟩ := hb.hit (v := bat c j) (by omega) (by omega)
  unfold plc at h
  rw [← ex, ← ey, hb.place hx, hb.place hy] at h
  obtain rfl : x = y := by omega
  exact hc.inj hi hj (by rw [← ex, ← ey])
theorem side_row {c : ByteArray} (hc : isRow c) (i : Nat) (hi : i + 1 < c.size) : isRow (side c i) := by
  have h1 := hc.2.2.1 i (by omega)
  have h2 := hc.2.2.1 (i + 1) (by omega)
  exact hc.swap (by unfold bellP; omega) (by unfold bellP; omega)
theorem side_size (c : ByteArray) (i : Nat) : (side c i).size = c.size := size_swap _ _ _
theorem bat_side {c : ByteArray} (hc : isRow c) (i : Nat) (hi : i + 1 < c.size) (j : Nat) (hj : j < c.size) : bat (side c i) j = if j = i then bat c (i + 1 : Nat) else if j = i + 1 then bat c i else bat c j := by
  have h1 := hc.2.2.1 i (by omega)
  have h2 := hc.2.2.1 (i + 1) (by omega)
  have h8 := hc.2.1
  unfold side
  rw [bat_swap c _ _ (by omega) (by omega) j hj]
  unfold swapV
  by_cases e : j = i
  · subst e; rw [if_pos (by omega), if_pos rfl]; omega
  · rw [if_neg (fun h => e (hc.inj hj (by omega) (by omega))), if_neg e]
    by_cases e2 : j = i + 1
    · subst e2; rw [if_pos (by omega), if_pos rfl]; omega
    · rw [if_neg (fun h => e2 (hc.inj hj hi (by omega))), if_neg e2]
theorem plc_side (b : ByteArray) {c : ByteArray} (hc : isRow c) (i : Nat) (hi : i + 1 < c.size) (j : Nat) (hj : j < c.size) : plc b (side c i) j = if j = i then plc b c (i + 1) else if j = i + 1 then plc b c i else plc b c j := by
  unfold plc
  rw [bat_side hc i hi j hj]
  split
  · rfl
  · split <;> rfl
/-- The state of both loops: the row c, the exchanges l so far, with so much fuel left. -/
structure Bub (b : ByteArray) (T : List Int) (c : ByteArray) (l : List Int) (f : Nat) : Prop where
  row : isRow c
  size : c.size = b.size
  all : l ++ bubS b f c = T
  fuel : l.length + f = 600
  room : 512 ≤ pot (plc b c) c.size + f
theorem pot_nonneg (p : Nat → Int) : ∀ n, (∀ j, j < n → 0 ≤ p j) → 0 ≤ pot p n
  | 0, _ => by simp [pot]
  | n + 1, h => by
    simp only [pot]
    have := pot_nonneg p n (fun j hj => h j (by omega))
    have h2 : 0 ≤ (n : Int) * p n := Int.mul_nonneg (by omega) (h n (by omega))
    omega
theorem Bub.start {a b : ByteArray} (h : two a b) : Bub b (bubS b 600 a) a [] 600 :=
  ⟨h.1, h.2.2, rfl, rfl, by have := pot_nonneg (plc b a) a.size (fun j hj => by have := plc_in b a h.2.1 h.1 h.2.2 j hj; omega); omega⟩
theorem Bub.step {b : ByteArray} {T : List Int} {c : ByteArray} {l : List Int} {f : Nat} (h : Bub b T c l f) (hb : isRow b) (i : Nat) (hi : i + 1 < c.size) (hlt : ∀ j, j < i → plc b c j < plc b c (j + 1)) (hn : ¬ plc b c i < plc b c (i + 1)) :
    ∃ g, f = g + 1 ∧ Bub b T (side c i) (l ++ [(i : Int) + 1]) g := by
  have hrow := h.row
  have hsz := h.size
  have hne : plc b c i ≠ plc b c (i + 1) := fun e => by have := plc_inj b c hb hrow hsz i (i + 1) (by omega) hi e; omega
  have hp := pot_swap (plc b c) (plc b (side c i)) i c.size hi (fun j hj h1 h2 => by rw [plc_side b hrow i hi j hj, if_neg h1, if_neg h2]) (by rw [plc_side b hrow i hi i (by omega), if_pos rfl]) (by rw [plc_side b hrow i hi (i + 1) hi, if_neg (by omega), if_pos rfl])
  have hr2 := side_row hrow i hi
  have h8 := hrow.2.1
  have hle := pot_le (plc b (side c i)) c.size h8 (fun j hj => by have := plc_in b (side c i) hb hr2 (by rw [side_size]; exact hsz) j (by rw [side_size]; exact hj); omega)
  have hroom := h.room
  obtain ⟨g, rfl⟩ : ∃ g, f = g + 1 := ⟨f - 1, by omega⟩
  refine ⟨g, rfl, hr2, by rw [side_size]; exact hsz, ?_, by have := h.fuel; simp; omega, by rw [side_size]; omega⟩
  rw [List.append_assoc, ← h.all, bubS_step b g c i (by omega) hlt hn]
  rfl
theorem Bub.done {b : ByteArray} {T : List Int} {c : ByteArray} {l : List Int} {f : Nat} (h : Bub b T c l f) (hlt : ∀ j, j + 1 < c.size → plc b c j < plc b c (j + 1)) : l = T := by
  rw [← h.all, bubS_done b f c (fun j hj => hlt j (by omega)), List.append_nil]
theorem Bub.len {b : ByteArray} {T : List Int} {c : ByteArray} {l : List Int} {f : Nat} (h : Bub b T c l f) : l.length ≤ 600 := by have := h.fuel; omega
def sliceLen : Value → Nat
  | .slice _ n _ => n
  | _ => 0
theorem Grow.len {w : World} {base : Nat} {e : TypeId} {size : Nat} {α : Type} {enc : α → List Value} {v : Value} {l : List α} (h : Grow w base e size enc v l) : sliceLen v = l.length := by
  rcases h.2 with ⟨h1, h2⟩ | ⟨g, cap, cur, h1, h2, _⟩
  · rw [h1, h2]; simp [sliceLen]
  · rw [h1]; simp [sliceLen]

set_option maxHeartbeats 1600000 in
theorem sSide_t (a b : ByteArray) (w : World) (h : two a b) :
    Calls Try.prog 15 #[.string a, .string b] w fun e w' => ∃ A c, e = .returned (.tuple #[.slice A (bubS b 600 a).length c, .bool true]) ∧ OwnL w' w.heap.size w'.heap.size A 1 encInt (bubS b 600 a) ∧ Below w.heap.size w w' := by
  have H := Lib.hid h
  have e1 := B_t h
  have HS := Lib.hid (Bub.start h)
  have hb8 := h.2.1.2.1
  clear h
  go_enter Try.func15, Try.ntmps15
  go_wp2_with (go_at_call 90; refine (l1Two_any _ _ _).mono ?_; rintro e w' ⟨rfl, n1, rfl⟩)
  go_loopw [0, 6, 7] (fun s v i wr => ∃ (c : ByteArray) (l : List Int) (f k : Nat), s = .string c ∧ Hid (Bub b (bubS b 600 a) c l f) ∧ k + 1 ≤ c.size ∧ i = .int .i64 (k + 1) ∧ (∀ j, j < k → plc b c j < plc b c (j + 1)) ∧ Grow wr w.heap.size 3 1 encInt v l ∧ Below w.heap.size w wr) (fun _ v i _ => (600 - sliceLen v) * 100 + (20 - (intOf i).toNat))
  case atStart => exact ⟨a, [], 600, 0, rfl, HS, by have := H.out.1.1; omega, by rfl, by omega, Grow.nil, below_drewN (Below.refl _ _) _⟩
  case round =>
    obtain ⟨c, l, f, k, rfl, HB, hk, rfl, hlt, hg, hbl⟩ := hrel
    have h8 := HB.out.row.2.1
    have hsz := HB.out.size
    have hl6 := HB.out.len
    have hgl := hg.len
    have hgs := hbl.size
    have Hlt := Lib.hid hlt
    have Hg := Lib.hid hg
    have Hbl := Lib.hid hbl
    have Hgl := Lib.hid hgl
    have Hsz := Lib.hid hsz
    clear hlt hg hbl hgl hsz
    by_cases hin : k + 1 < c.size
    · have hx := HB.out.row.2.2.1 k (by omega)
      have hy := HB.out.row.2.2.1 (k + 1) hin
      rw [Int.natCast_succ] at hy
      obtain ⟨hx1, hx2⟩ := hx
      obtain ⟨hy1, hy2⟩ := hy
      by_cases hd : plc b c (k + 1) < plc b c k
      · have cd : decide (placeS b (bat c (k + 1) - 48) < placeS b (bat c k - 48)) = true := by unfold plc at hd; rw [Int.natCast_succ] at hd; simpa using hd
        have Hd := Lib.hid hd
        have hone : (∀ u ∈ [Value.int .i64 ((k : Int) + 1)], u.oneCell' = true) := by simp [Value.oneCell']
        have Hone := Lib.hid hone
        clear hone hd
        go_wp2_with (first | (go_at_call 94; refine (l1At_any _ _ _ (by omega) (by omega) (by omega) (by rw [show ∀ x : Int, x + 1 - 1 = x from fun x => by omega]; omega)).mono ?_; rintro e w' ⟨rfl, rfl⟩) | (go_at_call 95; refine (l5Place_any _ _ _ H.out.2.1 (by omega) (by omega)).mono ?_; rintro e w' ⟨rfl, rfl⟩) | (go_at_call 96; refine (l25Swap_any _ _ _ _ HB.out.row (by omega) (by omega)).mono ?_; rintro e w5 ⟨rfl, hb5⟩; have t5 := hb5.size) | (at_builtin; refine wpList_push rfl _ _ 28 rfl w.heap.size 3 _ 1 8 encInt rfl Int_info rfl (by omega) _ l [(k : Int) + 1] 1 rfl rfl rfl (Hg.out.later hb5) rfl encInt_len Hone.out (by simp; omega) (by omega) (by omega) ?_; intro v' w2 hg2 hb2 _))
        obtain ⟨g, rfl, hB⟩ := HB.out.step H.out.2.1 k hin Hlt.out (by have := Hd.out; omega)
        have hl7 := hB.len
        have hg3 := hg2.len
        have Hl := Hgl.out
        simp only [List.length_append, List.length_singleton] at hl7 hg3
        go_roundw
        case rel => exact ⟨side c k, _, g, 0, by unfold side; rw [Int.natCast_succ], Lib.hid hB, by rw [side_size]; omega, rfl, by omega, hg2, (Hbl.out.trans (hb5.mono hgs)).trans hb2⟩
        case measure => simp [intOf]; omega
      · have cd : decide (placeS b (bat c (k + 1) - 48) < placeS b (bat c k - 48)) = false := by unfold plc at hd; rw [Int.natCast_succ] at hd; simpa using hd
        have Hd := Lib.hid hd
        clear hd
        go_wp2_with (first | (go_at_call 94; refine (l1At_any _ _ _ (by omega) (by omega) (by omega) (by rw [show ∀ x : Int, x + 1 - 1 = x from fun x => by omega]; omega)).mono ?_; rintro e w' ⟨rfl, rfl⟩) | (go_at_call 95; refine (l5Place_any _ _ _ H.out.2.1 (by omega) (by omega)).mono ?_; rintro e w' ⟨rfl, rfl⟩))
        go_roundw
        case rel =>
          refine ⟨c, l, f, k + 1, rfl, HB, by omega, by go_num, fun j hj => ?_, Hg.out, Hbl.out⟩
          rcases Nat.lt_or_eq_of_le (Nat.le_of_lt_succ hj) with h' | rfl
          · exact Hlt.out j h'
          · have n1 := Hd.out
            have n2 : plc b c j ≠ plc b c (j + 1) := fun e => by have := plc_inj b c H.out.2.1 HB.out.row Hsz.out j (j + 1) (by omega) hin e; omega
            omega
        case measure => simp [intOf]; omega
    · go_wp2
      go_ret2
      obtain rfl : l = bubS b 600 a := HB.out.done (fun j hj => Hlt.out j (by omega))
      obtain ⟨A, c, hv, ho⟩ := Hg.out.own encInt_len
      exact ⟨A, c, by rw [hv]; rfl, ho, Hbl.out⟩
theorem sSide_f (a b : ByteArray) (w : World) (h : ¬ two a b) :
    Calls Try.prog 15 #[.string a, .string b] w fun e w' => e = .returned (.tuple #[.slice none 0 0, .bool false]) ∧ Below w.heap.size w w' := by
  have e1 := B_f h
  clear h
  go_enter Try.func15, Try.ntmps15
  go_wp2_with (go_at_call 90; refine (l1Two_any _ _ _).mono ?_; rintro e w' ⟨rfl, n1, rfl⟩)
  go_ret2
  exact ⟨rfl, below_drewN (Below.refl _ _) _⟩
/-- The row whose bytes are bubbled. -/
theorem times_row (a b : ByteArray) (w : World) (h : two a b) :
    Calls Try.prog 92 #[.string (turnS b), .string a] w fun e w' => ∃ s, e = .returned (.string s) ∧ Hid (s.size = a.size) ∧ Hid (∀ j : Nat, j < a.size → bat s j = 48 + plc b a j) ∧ Below w.heap.size w w' := by
  have h8 := h.1.2.1
  have h9 := h.2.1.2.1
  refine (times_any (turnS b) a w (by omega) (fun i hi => by rw [size_turn]; have := h.1.2.2.1 i hi; have := h.2.2; omega)).mono ?_
  rintro e w' ⟨rfl, hb⟩
  refine ⟨_, rfl, Lib.hid (size_times _ _), Lib.hid fun j hj => ?_, hb⟩
  have h1 := h.1.2.2.1 j hj
  have h2 := h.2.2
  obtain ⟨p, hp⟩ : ∃ p : Nat, bat a j - 49 = p := ⟨(bat a j - 49).toNat, by omega⟩
  rw [bat_times _ _ j hj, hp, bat_turn b h9 p (by omega)]
  unfold plc
  congr 2; omega
set_option maxHeartbeats 3200000 in
theorem iSide_t (a b : ByteArray) (w : World) (h : two a b) :
    Calls Try.prog 14 #[.string a, .string b] w fun e w' => ∃ A c, e = .returned (.tuple #[.slice A (bubS b 600 a).length c, .bool true]) ∧ OwnL w' w.heap.size w'.heap.size A 1 encInt (bubS b 600 a) ∧ Below w.heap.size w w' := by
  have H := Lib.hid h
  have e1 := B_t h.1
  have e2 : B (isRowOf a.size b) = true := B_t ⟨by have := h.2.2; omega, h.2.1⟩
  have HS := Lib.hid (Bub.start h)
  have h8 := h.1.2.1
  clear h
  go_enter Try.func14, Try.ntmps14
  go_wp2_with (first | (go_at_call 87; refine (goodRow_any _ _).mono ?_; rintro e w' ⟨rfl, rfl⟩) | (go_at_call 88; refine (isRowOf_any _ _ _).mono ?_; rintro e w' ⟨rfl, rfl⟩) | (go_at_call 93; refine (turned_any b _ H.out.2.1).mono ?_; rintro e w1 ⟨rfl, hb1⟩) | (go_at_call 92; refine (times_row a b _ H.out).mono ?_; rintro e w2 ⟨s, rfl, hsz, hsb, hb2⟩) | (refine wpList_bytes rfl _ 9 22 5 rfl rfl rfl rfl s rfl ?_; intro cap w3 hc3 hb3))
  have hsa : s.size = a.size := hsz.out
  have hB0 : Hid (Below w.heap.size w (w3.alloc (.cells #[] 3))) := Lib.hid (((hb1.trans (hb2.mono hb1.size)).trans (hb3.mono (Nat.le_trans hb1.size hb2.size))).alloc (Nat.le_trans (Nat.le_trans hb1.size hb2.size) hb3.size) _)
  have hC0 : Hid (Cells (w3.alloc (.cells #[] 3)) w2.heap.size s.size (fun j => .int .u8 (48 + plc b a j))) := Lib.hid ((hc3.alloc _).congr fun i hi => by rw [hsb.out i (by omega)])
  have hG0 : Hid (Grow (w3.alloc (.cells #[] 3)) w3.heap.size 3 1 encInt (.slice (some ⟨w3.heap.size, 0, none⟩) 0 0) ([] : List Int)) := Lib.hid (Grow.empty (Nat.le_refl _))
  have t2 : w2.heap.size < w3.heap.size := hc3.lt
  have t1 : w.heap.size ≤ w2.heap.size := Nat.le_trans hb1.size hb2.size
  have t4 : w3.heap.size ≤ (w3.alloc (.cells #[] 3)).heap.size := by simp
  obtain ⟨n, hn⟩ : ∃ n : Nat, Hid (s.size = n) := ⟨_, Lib.hid rfl⟩
  rw [hn.out] at hsa hC0 ⊢
  have Hsa := Lib.hid hsa
  have hn8 : n ≤ 8 := by omega
  clear hc3 hb3 hb1 hb2 hsa hsz hsb
  generalize (w3.alloc (.cells #[] 3)) = w4 at *
  generalize w3.heap.size = G at hG0 t2 t4 ⊢
  generalize w2.heap.size = g at hC0 t1 t2 ⊢
  have t12 : w.heap.size ≤ G := by omega
  clear hn
  go_loopw [7] (fun v wr => ∃ (c : ByteArray) (l : List Int) (f : Nat), Hid (Bub b (bubS b 600 a) c l f) ∧ Cells wr g n (fun j => .int .u8 (48 + plc b c j)) ∧ Grow wr G 3 1 encInt v l ∧ Below w.heap.size w wr ∧ G ≤ wr.heap.size) (fun v _ => 600 - sliceLen v)
  case atStart => exact ⟨a, [], 600, HS, hC0.out, hG0.out, hB0.out, t4⟩
  case round =>
    obtain ⟨c, l, f, HB, hc, hg, hbl, hgs⟩ := hrel
    have Hc := Lib.hid hc
    have Hg := Lib.hid hg
    have Hbl := Lib.hid hbl
    clear hc hg hbl hC0 hG0 hB0
    have hsz : Hid (c.size = n) := Lib.hid (by rw [HB.out.size, Hsa.out]; exact H.out.2.2.symm)
    go_wp2
    go_loopw [8] (fun i wi => ∃ k : Nat, k + 1 ≤ n ∧ i = .int .i64 k ∧ (∀ j, j < k → plc b c j < plc b c (j + 1)) ∧ ∃ m, wi = wr.drewN m) (fun i _ => 20 - (intOf i).toNat)
    case atStart => exact ⟨0, by have := HB.out.row.1; have := hsz.out; omega, by rfl, by omega, 0, rfl⟩
    case round =>
      obtain ⟨k, hk, rfl, hlt, m, rfl⟩ := hrel
      have Hlt := Lib.hid hlt
      clear hlt
      by_cases hin : k + 1 < n
      · have d1 : decide ((k : Int) + 1 < n) = true := by simp; omega
        have v1 := Hc.out.cell (i := k) (by omega)
        have v2 := Hc.out.cell (i := k + 1) hin
        by_cases hd : plc b c k < plc b c (k + 1)
        · have cd : decide (plc b c k < plc b c (k + 1)) = true := by simpa using hd
          have Hd := Lib.hid hd
          clear hd
          go_wp2
          go_quiet (fail)
          go_wp2
          go_roundw
          case rel =>
            refine ⟨k + 1, by omega, by go_num, fun j hj => ?_, _, rfl⟩
            rcases Nat.lt_or_eq_of_le (Nat.le_of_lt_succ hj) with h' | rfl
            · exact Hlt.out j h'
            · exact Hd.out
          case measure => simp [intOf]; omega
        · have cd : decide (plc b c k < plc b c (k + 1)) = false := by simpa using hd
          have d2 : ((k : Int) + 1 == n) = false := by simp; omega
          have f1 := Hc.out.free (i := k) (by omega)
          have f2 := Hc.out.free (i := k + 1) hin
          have Hd := Lib.hid hd
          clear hd
          go_wp2
          go_quiet (fail)
          go_wp2
          go_region
          have hrow := HB.out.row
          have hcs := hsz.out
          obtain ⟨fu, rfl, hB⟩ := HB.out.step H.out.2.1 k (by omega) Hlt.out (by have := Hd.out; omega)
          have HC5 : Hid (Cells (((wr.drewN (m + nq + 1)).setCell ⟨g, k, none⟩ (.int .u8 (48 + plc b c (k + 1)))).setCell ⟨g, k + 1, none⟩ (.int .u8 (48 + plc b c k))) g n (fun j => .int .u8 (48 + plc b (side c k) j))) := Lib.hid ((((Hc.out.drewN _).set (i := k) (by omega) _).set (i := k + 1) hin _).congr fun j hj => by
            rw [plc_side b hrow k (by omega) j (by omega)]
            by_cases e2 : j = k + 1
            · subst e2; rw [upd_same, if_neg (by omega), if_pos rfl]
            · rw [upd_other _ _ _ _ e2]
              by_cases e3 : j = k
              · subst e3; rw [upd_same, if_pos rfl]
              · rw [upd_other _ _ _ _ e3, if_neg e3, if_neg e2])
          have HG5 : Hid (Grow (((wr.drewN (m + nq + 1)).setCell ⟨g, k, none⟩ (.int .u8 (48 + plc b c (k + 1)))).setCell ⟨g, k + 1, none⟩ (.int .u8 (48 + plc b c k))) G 3 1 encInt u7 l) := Lib.hid (((Hg.out.drewN _).set t2 _).set t2 _)
          have HB5 : Hid (Below w.heap.size w (((wr.drewN (m + nq + 1)).setCell ⟨g, k, none⟩ (.int .u8 (48 + plc b c (k + 1)))).setCell ⟨g, k + 1, none⟩ (.int .u8 (48 + plc b c k)))) := Lib.hid (((below_drewN Hbl.out _).setCell (p := ⟨g, k, none⟩) t1 _).setCell (p := ⟨g, k + 1, none⟩) t1 _)
          have hgs5 : G ≤ (((wr.drewN (m + nq + 1)).setCell ⟨g, k, none⟩ (.int .u8 (48 + plc b c (k + 1)))).setCell ⟨g, k + 1, none⟩ (.int .u8 (48 + plc b c k))).heap.size := by simpa using hgs
          generalize (((wr.drewN (m + nq + 1)).setCell ⟨g, k, none⟩ (.int .u8 (48 + plc b c (k + 1)))).setCell ⟨g, k + 1, none⟩ (.int .u8 (48 + plc b c k))) = w5 at *
          have hl6 := hB.len
          simp only [List.length_append, List.length_singleton] at hl6
          have hone : (∀ u ∈ [Value.int .i64 ((k : Int) + 1)], u.oneCell' = true) := by simp [Value.oneCell']
          have Hone := Lib.hid hone
          have HB6 := Lib.hid hB
          have Hgl := Lib.hid Hg.out.len
          clear hone hB
          go_wp2_with (at_builtin; refine wpList_push rfl _ _ 28 rfl G 3 _ 1 8 encInt rfl Int_info rfl (by omega) _ l [(k : Int) + 1] 1 rfl rfl rfl HG5.out rfl encInt_len Hone.out (by simp; omega) (by omega) (by omega) ?_; intro v' w6 hg6 hb6 _)
          have hg7 := hg6.len
          have Hl := Hgl.out
          simp only [List.length_append, List.length_singleton] at hg7
          go_roundw
          case rel => exact ⟨side c k, _, fu, HB6, HC5.out.below hb6 t2, hg6, HB5.out.trans (hb6.mono t12), Nat.le_trans hgs5 hb6.size⟩
          case measure => omega
      · have d1 : decide ((k : Int) + 1 < n) = false := by simp; omega
        have d2 : ((k : Int) + 1 == n) = true := by simp; omega
        go_wp2
        go_quiet (fail)
        go_wp2
        go_ret2
        have hl : l = bubS b 600 a := HB.out.done (fun j hj => Hlt.out j (by have := hsz.out; omega))
        obtain ⟨A, c, hv, ho⟩ := Hg.out.own encInt_len
        rw [hl] at hv ho
        exact ⟨A, c, by rw [hv]; rfl, (ho.mono t12 (Nat.le_refl _)).later (below_drewN (Below.refl _ _) _), below_drewN Hbl.out _⟩
theorem iSide_f (a b : ByteArray) (w : World) (h : ¬ two a b) :
    Calls Try.prog 14 #[.string a, .string b] w fun e w' => e = .returned (.tuple #[.slice none 0 0, .bool false]) ∧ Below w.heap.size w w' := by
  by_cases h1 : isRow a
  · have e1 := B_t h1
    have e2 : B (isRowOf a.size b) = false := B_f (fun x => h ⟨h1, x.2, by have := x.1; omega⟩)
    have h8 := h1.2.1
    clear h h1
    go_enter Try.func14, Try.ntmps14
    go_wp2_with (first | (go_at_call 87; refine (goodRow_any _ _).mono ?_; rintro e w' ⟨rfl, rfl⟩) | (go_at_call 88; refine (isRowOf_any _ _ _).mono ?_; rintro e w' ⟨rfl, rfl⟩))
    go_ret2
    exact ⟨rfl, Below.refl _ _⟩
  · have e1 := B_f h1
    clear h h1
    go_enter Try.func14, Try.ntmps14
    go_wp2_with (first | (go_at_call 87; refine (goodRow_any _ _).mono ?_; rintro e w' ⟨rfl, rfl⟩) | (go_at_call 88; refine (isRowOf_any _ _ _).mono ?_; rintro e w' ⟨rfl, rfl⟩))
    go_ret2
    exact ⟨rfl, Below.refl _ _⟩

end Go.Proofs.Ytdecjijldcbnjaa
