import Derived.Test.YtglnehinmdmgmaaGreatMErrorsL27
import Derived.Test.YtglnehinmdmgmaaGreatMErrorsL19
/-
  The sums of the errors of each bell: what FnErrors says of them, in plain words; both sides' WorstOf by one contract.
-/
namespace Go.Proofs.YtglnehinmdmgmaaGreat
open Go.RowKit
set_option linter.unusedVariables false
set_option linter.unusedSimpArgs false
set_option maxRecDepth 100000

def sI : List Int → Int
  | [] => 0
  | x :: l => x + sI l
theorem sI_app : ∀ (a b : List Int), sI (a ++ b) = sI a + sI b
  | [], b => by simp [sI]
  | x :: a, b => by simp only [List.cons_append, sI, sI_app a b]; omega
theorem sI_take {l : List Int} {k : Nat} (h : k < l.length) : sI (l.take (k + 1)) = sI (l.take k) + l[k] := by
  rw [List.take_succ_eq_append_getElem h, sI_app]; simp [sI]
theorem sI_set : ∀ (l : List Int) (i : Nat) (v : Int), i < l.length → sI (l.set i v) = sI l - l.getD i 0 + v
  | [], i, v, h => by simp at h
  | x :: l, 0, v, h => by simp only [List.set_cons_zero, sI, List.getD_cons_zero]; omega
  | x :: l, i + 1, v, h => by
    have := sI_set l i v (by simpa using h)
    simp only [List.set_cons_succ, sI, this, List.getD_cons_succ]; omega
theorem sI_rep : ∀ n : Nat, sI (List.replicate n 0) = 0
  | 0 => rfl
  | n + 1 => by simp only [List.replicate_succ, sI, sI_rep n]; rfl
theorem sI_bd {B : Int} : ∀ (l : List Int), (∀ (k : Nat) (hk : k < l.length), 0 ≤ l[k] ∧ l[k] ≤ B) → 0 ≤ sI l ∧ sI l ≤ l.length * B
  | [], _ => by simp [sI]
  | x :: l, h => by
    have h0 := h 0 (by simp)
    have ih := sI_bd l (fun k hk => by have := h (k + 1) (by simpa using hk); simpa using this)
    simp only [List.getElem_cons_zero] at h0
    simp only [sI, List.length_cons]
    rw [Int.natCast_add, Int.add_mul]
    omega
theorem sI_bdT {B : Int} (hB : 0 ≤ B) {l : List Int} (h : ∀ (k : Nat) (hk : k < l.length), 0 ≤ l[k] ∧ l[k] ≤ B) (k : Nat) : 0 ≤ sI (l.take k) ∧ sI (l.take k) ≤ l.length * B := by
  have h1 := sI_bd (B := B) (l.take k) (fun j hj => by rw [List.getElem_take]; exact h j (by rw [List.length_take] at hj; omega))
  have h2 : ((l.take k).length : Int) * B ≤ (l.length : Int) * B := Int.mul_le_mul_of_nonneg_right (by rw [List.length_take]; omega) hB
  omega
theorem wo_sum {es : List Int} {rows : List ByteArray} {l : List Blw} (h : worstP es rows l) : ∀ k, k ≤ es.length → sI (worstTo rows l es (sz0 rows) k) = sI ((es.map absI).take k)
  | 0, _ => by simp only [worstTo, sI_rep, List.take_zero, sI]
  | k + 1, hk => by
    have hlt : k < es.length := by omega
    have hlt3 : k < l.length := by have := h.1.2.2.2.1; omega
    have hg := h.2 k hlt hlt3 hlt
    obtain ⟨r, i, hr, _, _, _, _, _, _, x6, x7, _, _, x11, _⟩ := worst_round h.1 hlt hlt3 hg.1 hg.2
    have ih := wo_sum h k (by omega)
    rw [worstTo_step (List.getElem?_eq_getElem hlt3) (List.getElem?_eq_getElem hlt), sI_set _ _ _ (by rw [worstTo_len]; omega), ih, sI_take (by simpa using hlt), List.getElem_map]
    omega
open Classical in
/-- What WorstOf answers. -/
noncomputable def woR (es : List Int) (rows : List ByteArray) (l : List Blw) : List Int × Bool := if worstP es rows l then (worstTo rows l es (sz0 rows) es.length, true) else ([], false)
theorem wo_facts {es D : List Int} {rows : List ByteArray} {l : List Blw} (h : woR es rows l = (D, true)) : sI D = sI (es.map absI) ∧ D.length ≤ 8 ∧ (∀ (k : Nat) (hk : k < D.length), 0 ≤ D[k] ∧ D[k] ≤ 4000000000) ∧ es.length ≤ 400 ∧ ∀ (k : Nat) (hk : k < es.length), -10000000 ≤ es[k] ∧ es[k] ≤ 10000000 := by
  unfold woR at h
  split at h
  · rename_i hp
    injection h with h _
    subst h
    refine ⟨?_, worst_len8 hp, fun k hk => ?_, hp.1.1, fun k hk => ?_⟩
    · have := wo_sum hp es.length (Nat.le_refl _)
      rw [List.take_of_length_le (by simp)] at this; exact this
    · have := worstTo_bd rows l es (sz0 rows) es.length (fun i hi _ => (hp.2 i hi (by have := hp.1.2.2.2.1; omega) hi).1) k
      rw [List.getD_eq_getElem?_getD, List.getElem?_eq_getElem hk] at this
      simp only [Option.getD_some] at this
      have h4 := hp.1.1
      omega
    · have := (hp.2 k hk (by have := hp.1.2.2.2.1; omega) hk).1
      exact this
  · injection h with _ h; cases h
theorem woR_len {es : List Int} {rows : List ByteArray} {l : List Blw} : (woR es rows l).1.length ≤ 8 := by
  unfold woR; split
  · rename_i hp; exact worst_len8 hp
  · simp

def WoC (R : List Int × Bool) (w : World) (e : Ending) (w' : World) : Prop := ∃ (A' : Option Addr) (c' : Nat), e = .returned (.tuple #[.slice A' R.1.length c', .bool R.2]) ∧ OwnL w' w.heap.size w'.heap.size A' 1 encInt R.1 ∧ Below w.heap.size w w'

theorem iWo_r (es : List Int) (rows : List ByteArray) (l : List Blw) (A A2 A3 : Option Addr) (c c2 c3 : Nat) (w : World) (h : RdL w w.heap.size A 1 encInt es) (h2 : RdL w w.heap.size A2 1 encString rows) (h3 : RdL w w.heap.size A3 3 Blw.enc l) (hl : es.length ≤ 1048576) (hl2 : rows.length ≤ 1048576) (hl3 : l.length ≤ 1048576) (hs2 : ∀ x ∈ rows, String_small 1048576 x) (hc3 : l.length ≤ c3) : Calls Tryz.prog 6 #[.slice A es.length c, .slice A2 rows.length c2, .slice A3 l.length c3] w fun e w' => WoC (woR es rows l) w e w' := by
  by_cases hp : worstP es rows l
  · rw [show woR es rows l = (worstTo rows l es (sz0 rows) es.length, true) from if_pos hp]
    exact iWorst_t es rows l A A2 A3 c c2 c3 w h h2 h3 hl hl2 hl3 hs2 hc3 hp.1 hp.2
  · rw [show woR es rows l = ([], false) from if_neg hp]
    exact (iWorst_f es rows l A A2 A3 c c2 c3 w h h2 h3 hl hl2 hl3 hs2 hc3 hp).mono fun e w' h => ⟨none, 0, h.1, .inl rfl, h.2⟩
theorem sWo_r (es : List Int) (rows : List ByteArray) (l : List Blw) (A A2 A3 : Option Addr) (c c2 c3 : Nat) (w : World) (h : RdL w w.heap.size A 1 encInt es) (h2 : RdL w w.heap.size A2 1 encString rows) (h3 : RdL w w.heap.size A3 3 Blw.enc l) (hl : es.length ≤ 1048576) (hl2 : rows.length ≤ 1048576) (hl3 : l.length ≤ 1048576) (hs2 : ∀ x ∈ rows, String_small 1048576 x) (hc3 : l.length ≤ c3) : Calls Tryz.prog 7 #[.slice A es.length c, .slice A2 rows.length c2, .slice A3 l.length c3] w fun e w' => WoC (woR es rows l) w e w' := by
  by_cases hp : worstP es rows l
  · rw [show woR es rows l = (worstTo rows l es (sz0 rows) es.length, true) from if_pos hp]
    exact sWorst_t es rows l A A2 A3 c c2 c3 w h h2 h3 hl hl2 hl3 hs2 hc3 hp.1 hp.all hp.2
  · rw [show woR es rows l = ([], false) from if_neg hp]
    exact (sWorst_f es rows l A A2 A3 c c2 c3 w h h2 h3 hl hl2 hl3 hs2 hc3 hp).mono fun e w' h => ⟨none, 0, h.1, .inl rfl, h.2⟩
end Go.Proofs.YtglnehinmdmgmaaGreat

/-
  The least alignment of least cost: the reference's.
-/
namespace Go.Proofs.YtglnehinmdmgmaaGreat
open Go.RowKit
set_option linter.unusedVariables false
set_option linter.unusedSimpArgs false
set_option maxRecDepth 100000

section
variable {w w' : World} {g m n lo b : Nat} {h : Nat → Nat} {F : Nat → Nat → Int}
theorem TabW.keep (t : TabW w g m n lo h F) (hb : Below b w w') (hg : g < b) (hh : ∀ i, i ≤ m → h i < b) : TabW w' g m n lo h F :=
  ⟨t.1.below hb hg, fun i h1 h2 => ⟨(t.2 i h1 h2).1, (t.2 i h1 h2).2.below hb (hh i h2)⟩⟩
theorem TabW.set (t : TabW w g m n lo h F) {p : Addr} (hg : g < p.block) (hh : ∀ i, i ≤ m → h i < p.block) (v : Value) : TabW (w.setCell p v) g m n lo h F :=
  ⟨t.1.other (by omega) v, fun i h1 h2 => ⟨(t.2 i h1 h2).1, (t.2 i h1 h2).2.other (by have := hh i h2; omega) v⟩⟩
end
/-- A match's cells. -/
def bxM (v : Value) (c : Int) : Nat → Value := fun i => match i with
  | 0 => v
  | _ => .int .i64 c
theorem bxM_new (w : World) (T : TypeId) (v : Value) (c : Int) : Cells (w.alloc (.cells #[v, .int .i64 c] T)) w.heap.size 2 (bxM v c) :=
  Cells.new _ _ _ 2 _ (fun i hi => by rcases (show i = 0 ∨ i = 1 by omega) with rfl | rfl <;> rfl)
theorem bxM_set {w : World} {g : Nat} {v : Value} {c : Int} (h : Cells w g 2 (bxM v c)) (u : Value) : Cells (w.setCell ⟨g, 0, none⟩ u) g 2 (bxM u c) :=
  (h.set (i := 0) (by omega) u).congr fun i hi => by rcases (show i = 0 ∨ i = 1 by omega) with rfl | rfl <;> rfl
/-- What holds while the alignment is made: the table, the match's box, the list so far, the result's box. -/
def BestW (w0 w : World) (g m n : Nat) (h : Nat → Nat) (F : Nat → Nat → Int) (gr gx : Nat) (v : Value) (L : List Int) : Prop :=
  TabW w g m n 0 h F ∧ Cells w gx 2 (bxM v (F 0 0)) ∧ Grow w (gx + 1) 3 1 encInt v L ∧ Cells w gr 2 (bxM (.slice none 0 0) 0) ∧ Below w0.heap.size w0 w
section
variable {w0 w w' : World} {g m n gr gx : Nat} {h : Nat → Nat} {F : Nat → Nat → Int} {v v' : Value} {L L' : List Int}
theorem BestW.drewN (b : BestW w0 w g m n h F gr gx v L) (k : Nat) : BestW w0 (w.drewN k) g m n h F gr gx v L :=
  ⟨b.1, b.2.1, b.2.2.1, b.2.2.2.1, below_drewN b.2.2.2.2 k⟩
/-- One more entry: appended, then the box told. -/
theorem BestW.push (b : BestW w0 w g m n h F gr gx v L) (hh : ∀ i, i ≤ m → h i < gx) (hg : g < gx) (hr : gr < gx) (h0 : w0.heap.size ≤ gr) (hG : Grow w' (gx + 1) 3 1 encInt v' L') (hB : Below (gx + 1) w w') :
    BestW w0 (w'.setCell ⟨gx, 0, none⟩ v') g m n h F gr gx v' L' :=
  ⟨(b.1.keep hB (by omega) (fun i hi => by have := hh i hi; omega)).set (by show g < gx; omega) (fun i hi => hh i hi) _,
   bxM_set (b.2.1.below hB (by omega)) _, hG.set (by show gx < gx + 1; omega) _, (b.2.2.2.1.below hB (by omega)).other (by show gx ≠ gr; omega) _,
   (b.2.2.2.2.trans (hB.mono (by omega))).setCell (p := ⟨gx, 0, none⟩) (by show w0.heap.size ≤ gx; omega) _⟩
end




set_option maxHeartbeats 6400000 in
theorem l22Best_any (a b : List Int) (s : Int) (A B_ : Option Addr) (c c' : Nat) (w : World) (ha : RdL w w.heap.size A 1 encInt a) (hb : RdL w w.heap.size B_ 1 encInt b) (hp : askP a b s) : Calls Tryz.prog 83 #[.slice A a.length c, .slice B_ b.length c', .int .i64 s] w fun e w' => ∃ (A' : Option Addr) (c' : Nat), e = .returned (.agg #[.slice A' a.length c', .int .i64 (pM s a b 0 0)]) ∧ OwnL w' w.heap.size w'.heap.size A' 1 encInt (ofM s a b a.length).1 ∧ Below w.heap.size w w' := by
  have Ha := Lib.hid ha
  have Hb := Lib.hid hb
  have HP := Lib.hid hp
  have hla := hp.1.1
  have hlb := hp.2.1.1
  obtain ⟨hs0, hs1⟩ := hp.2.2
  have HF := Lib.hid (fun i j => hp.bd i j)
  clear ha hb hp
  obtain ⟨m, hm⟩ : ∃ m, Hid (a.length = m) := ⟨_, Lib.hid rfl⟩
  obtain ⟨n, hn⟩ : ∃ n, Hid (b.length = n) := ⟨_, Lib.hid rfl⟩
  obtain ⟨F, hF⟩ : ∃ F, Hid (pM s a b = F) := ⟨_, Lib.hid rfl⟩
  have hcall : Hid (∀ W, Below w.heap.size w W → Calls Tryz.prog 101 #[.slice A m c, .slice B_ n c', .int .i64 s] W fun e w' => ∃ (g : Nat) (h : Nat → Nat), e = .returned (.slice (some ⟨g, 0, none⟩) (m + 1) (m + 1)) ∧ W.heap.size ≤ g ∧ TabW w' g m n 0 h F ∧ Below W.heap.size W w') := Lib.hid fun W hW => by
    have := l22Prices_any a b s A B_ c c' W ((Ha.out.below hW (Nat.le_refl _)).more hW.size) ((Hb.out.below hW (Nat.le_refl _)).more hW.size) HP.out
    rw [hm.out, hn.out, hF.out] at this; exact this
  rw [hF.out] at HF ⊢
  rw [hm.out] at hla ⊢
  rw [hn.out] at hlb ⊢
  go_enter Tryz.func83, Tryz.ntmps83
  go_upto_region 2 with (first | (go_at_call 101; refine (hcall.out _ ((Below.refl _ _).alloc (Nat.le_refl _) _)).mono ?_; rintro e w1 ⟨g, h, rfl, hg, ht, hb1⟩; have HT1 := Lib.hid ht; have HB1 := Lib.hid hb1; clear ht hb1) | fail)
  have p0 := HT1.out.outer (k := 0) (by omega) (by omega)
  have p1 := HT1.out.at (k := 0) (j := 0) (by omega) (by omega) (by omega)
  obtain ⟨f0, hf0⟩ : ∃ f, Hid (F 0 0 = f) := ⟨_, Lib.hid rfl⟩
  rw [hf0.out] at p1
  go_upto_region 3 with fail
  obtain ⟨gr, hgr⟩ : ∃ gr, Hid (w.heap.size = gr) := ⟨_, Lib.hid rfl⟩
  obtain ⟨gx, hgx⟩ : ∃ gx, Hid (w1.heap.size = gx) := ⟨_, Lib.hid rfl⟩
  have hgs : w.heap.size + 1 ≤ g := by simpa using hg
  have hglt : g < gx := by rw [← hgx.out]; exact HT1.out.1.lt
  have hhlt : Hid (∀ i, i ≤ m → h i < gx) := Lib.hid (fun i hi => by rw [← hgx.out]; exact (HT1.out.2 i (Nat.zero_le _) hi).2.lt)
  have hrx : gr < gx := by have := hgr.out; omega
  have hr0 : w.heap.size ≤ gr := by rw [hgr.out]; exact Nat.le_refl _
  obtain ⟨V, hVe, hBW⟩ : ∃ V : World, Hid (w1.alloc (.cells #[.slice none 0 0, .int .i64 f0] 66) = V) ∧ Hid (BestW w V g m n h F gr gx (.slice none 0 0) []) := by
    refine ⟨_, Lib.hid rfl, Lib.hid ⟨HT1.out.later ((Below.refl _ _).alloc (Nat.le_refl _) _), ?_, Grow.nil, ?_, ?_⟩⟩
    · rw [← hgx.out, hf0.out]; exact bxM_new _ _ _ _
    · have h1 := (bxM_new w 66 (.slice none 0 0) 0).later HB1.out
      rw [hgr.out] at h1
      exact h1.later ((Below.refl _ _).alloc (Nat.le_refl _) _)
    · exact (((Below.refl _ _).alloc (Nat.le_refl _) _).trans (HB1.out.mono (by simp))).alloc (by have := hgr.out; have := hgx.out; omega) _
  rw [hVe.out, hgx.out, hgr.out]
  clear hVe p0 p1 HT1 HB1 hcall
  go_upto_region 5 with fail
  go_loopw [9, 24] (fun jv iv wr => ∃ (k : Nat) (v : Value), k ≤ m ∧ iv = .int .i64 k ∧ jv = .int .i64 ((ofM s a b k).2 : Nat) ∧ Hid (BestW w wr g m n h F gr gx v (ofM s a b k).1)) (fun _ i _ => m - (intOf i).toNat)
  case atStart => exact ⟨0, _, by omega, rfl, rfl, hBW⟩
  case round =>
    obtain ⟨k, v, hk, rfl, rfl, HW⟩ := hrel
    clear hBW
    obtain ⟨i1, i2, _⟩ := ofM_inv (s := s) (a := a) (b := b) k (by rw [hm.out]; exact hk)
    have hmi := Lib.hid (@ofM_miss s a b k)
    have hhi := Lib.hid (fun y => @ofM_hit s a b k y)
    have hso := Lib.hid (fun hx => @hit_some s a b k hx (b.length - (ofM s a b k).2) (ofM s a b k).2 (Nat.le_refl _) i1)
    rw [hF.out] at hmi hhi hso
    rw [hn.out] at i1
    by_cases hlt : k < m
    · obtain ⟨J, hJ⟩ : ∃ J, Hid ((ofM s a b k).2 = J) := ⟨_, Lib.hid rfl⟩
      obtain ⟨L0, hL0⟩ : ∃ L0, Hid ((ofM s a b k).1 = L0) := ⟨_, Lib.hid rfl⟩
      rw [hJ.out] at hmi hhi hso i1
      rw [hL0.out] at hmi hhi HW i2
      rw [hJ.out]
      have p0 := HW.out.1.outer (k := k) (Nat.zero_le _) (by omega)
      have p1 := HW.out.1.outer (k := k + 1) (Nat.zero_le _) (by omega)
      have q0 := HW.out.1.at (k := k) (j := J) (Nat.zero_le _) (by omega) i1
      have q1 := HW.out.1.at (k := k + 1) (j := J) (Nat.zero_le _) (by omega) i1
      obtain ⟨f0a, f0b⟩ := HF.out k J
      obtain ⟨f1a, f1b⟩ := HF.out (k + 1) J
      obtain ⟨e0, he0⟩ : ∃ e, Hid (F k J = e) := ⟨_, Lib.hid rfl⟩
      obtain ⟨e1, he1⟩ : ∃ e, Hid (F (k + 1) J = e) := ⟨_, Lib.hid rfl⟩
      by_cases hc : F k J = s + F (k + 1) J
      · have hst := Lib.hid (hmi.out hc)
        rw [he0.out, he1.out] at hc
        rw [he0.out] at q0 f0a f0b
        rw [he1.out] at q1 f1a f1b
        have d1 : (e0 == s + e1) = true := beq_iff_eq.2 hc
        go_upto_region 7 with fail
        go_quiet (fail)
        have HWd : Hid (BestW w (wr.drewN nq) g m n h F gr gx v L0) := Lib.hid (HW.out.drewN nq)
        go_upto_region 8 with fail
        clear p0 p1 q0 q1 HW
        generalize wr.drewN nq = wQ at HWd ⊢
        have x0 : wQ.cell? ⟨gx, 0, none⟩ = some v := HWd.out.2.1.cell (i := 0) (by omega)
        have hlx := HWd.out.2.1.lt
        go_wp2_with (first | (at_builtin; refine wpList_pushA rfl (.tmp 46) (.tmp 47) 24 rfl (gx + 1) 3 _ 1 8 encInt rfl Int_info rfl (by omega) v L0 [-1] 1 rfl rfl rfl HWd.out.2.2.1 rfl encInt_len (by simp [encInt, Value.oneCell']) (by simp only [List.length_singleton]; omega) (by omega) (by omega) ?_; intro v8 w8 g8 b8 _ _; obtain ⟨A8, c8, hv8, _⟩ := g8.own encInt_len; rw [List.length_append, i2, List.length_singleton] at hv8; subst hv8; have HC8 := HWd.out.2.1.below b8 (by omega); have x1 := HC8.cell (i := 0) (by omega); have x2 := HC8.free (i := 0) (by omega); have HW8 : Hid (BestW w (w8.setCell ⟨gx, 0, none⟩ (.slice A8 (k + 1) c8)) g m n h F gr gx (.slice A8 (k + 1) c8) (L0 ++ [-1])) := Lib.hid (HWd.out.push hhlt.out hglt hrx hr0 g8 b8); clear g8 b8 HC8) | fail)
        go_roundw
        case rel => exact ⟨k + 1, _, by omega, by go_num, (by rw [hst.out]), Lib.hid (by rw [hst.out]; exact HW8.out)⟩
        case measure => first | (simp [intOf]; done) | (simp [intOf]; omega)
      · obtain ⟨z, hz1, hz2, hz3⟩ := hso.out (by rw [hm.out]; exact hlt) hc
        obtain ⟨y, hy1, hy2, hy3, hy4⟩ := hit_first (p := hitM s a b k J) (b.length + 1) J z (by omega) hz1 hz3
        have hst := Lib.hid (hhi.out y hc hy1 (by omega) hy3 hy4)
        have hyn : y < n := by rw [← hn.out]; omega
        have Hy3 := Lib.hid hy3
        have Hy4 := Lib.hid hy4
        clear hz1 hz2 hz3 hy3 hy4 hmi hhi hso
        rw [he0.out, he1.out] at hc
        rw [he0.out] at q0 f0a f0b
        rw [he1.out] at q1 f1a f1b
        have d1 : (e0 == s + e1) = false := beq_eq_false_iff_ne.2 hc
        go_upto_region 7 with fail
        go_quiet (fail)
        have HWd : Hid (BestW w (wr.drewN nq) g m n h F gr gx v L0) := Lib.hid (HW.out.drewN nq)
        clear p0 p1 q0 q1 HW
        generalize wr.drewN nq = wQ at HWd ⊢
        go_upto_region 10 with fail
        go_loopw [9, 11] (fun jv xv wr2 => ∃ x : Nat, J ≤ x ∧ x ≤ y ∧ xv = .int .i64 x ∧ jv = .int .i64 J ∧ Hid (BestW w wr2 g m n h F gr gx v L0)) (fun _ xv _ => n - (intOf xv).toNat)
        case atStart => exact ⟨J, Nat.le_refl _, hy1, rfl, rfl, HWd⟩
        case round =>
          obtain ⟨x, hx1, hx2, rfl, rfl, HW⟩ := hrel
          clear HWd
          have hxn : x < n := by omega
          have hfr := HP.out.far (i := k) (j := x) (by rw [hm.out]; exact hlt) (by rw [hn.out]; exact hxn)
          obtain ⟨ga, oa, hA, hga, hca⟩ := Ha.out.at (k := k) (by rw [hm.out]; exact hlt)
          obtain ⟨gb, ob, hB, hgb, hcb⟩ := Hb.out.at (k := x) (by rw [hn.out]; exact hxn)
          have ra : wr.cell? ⟨ga, oa + k, none⟩ = some (.int .i64 (a[k]'(by rw [hm.out]; exact hlt))) := by have := (HW.out.2.2.2.2.cell (p := ⟨ga, oa + k * 1 + 0, none⟩) (show ga < w.heap.size by omega)).trans (hca 0 _ rfl); simpa using this
          have rb : wr.cell? ⟨gb, ob + x, none⟩ = some (.int .i64 (b[x]'(by rw [hn.out]; exact hxn))) := by have := (HW.out.2.2.2.2.cell (p := ⟨gb, ob + x * 1 + 0, none⟩) (show gb < w.heap.size by omega)).trans (hcb 0 _ rfl); simpa using this
          have hhit : Hid (hitM s a b k J x ↔ e0 = s * ((x : Int) - (J : Int)) + absV (a[k]'(by rw [hm.out]; exact hlt) - b[x]'(by rw [hn.out]; exact hxn)) + F (k + 1) (x + 1)) := Lib.hid (by
            unfold hitM
            rw [hF.out, he0.out, farM_abs, getD_get (by rw [hm.out]; exact hlt), getD_get (by rw [hn.out]; exact hxn)])
          subst hA hB
          clear hca hcb
          obtain ⟨xa, hxa⟩ : ∃ xa, Hid (a[k]'(by rw [hm.out]; exact hlt) = xa) := ⟨_, Lib.hid rfl⟩
          obtain ⟨xb, hxb⟩ : ∃ xb, Hid (b[x]'(by rw [hn.out]; exact hxn) = xb) := ⟨_, Lib.hid rfl⟩
          rw [hxa.out] at ra hfr hhit
          rw [hxb.out] at rb hfr hhit
          obtain ⟨xa1, xa2, xb1, xb2, u1, u2⟩ := hfr
          obtain ⟨u, hu⟩ : ∃ u, Hid (absV (xa - xb) = u) := ⟨_, Lib.hid rfl⟩
          rw [hu.out] at u1 u2 hhit
          have hFar : Hid (∀ W, Calls Tryz.prog 26 #[.int .i64 xa, .int .i64 xb] W fun e w' => e = .returned (.int .i64 u) ∧ W = w') := Lib.hid fun W => by
            have := l22FarV_any xa xb W (by unfold inB; omega) (by unfold inB; omega)
            rw [hu.out] at this; exact this
          have p0 := HW.out.1.outer (k := k) (Nat.zero_le _) (by omega)
          have p1 := HW.out.1.outer (k := k + 1) (Nat.zero_le _) (by omega)
          have q0 := HW.out.1.at (k := k) (j := J) (Nat.zero_le _) (by omega) i1
          have q3 := HW.out.1.at (k := k + 1) (j := x + 1) (Nat.zero_le _) (by omega) (by omega)
          obtain ⟨f3a, f3b⟩ := HF.out (k + 1) (x + 1)
          obtain ⟨f3, hf3⟩ : ∃ e, Hid (F (k + 1) (x + 1) = e) := ⟨_, Lib.hid rfl⟩
          rw [he0.out] at q0
          rw [hf3.out] at q3 f3a f3b hhit
          have hml : s * ((x : Int) - (J : Int)) ≤ 10000 * 60 := Int.mul_le_mul hs1 (by omega) (by omega) (by omega)
          have hmn : 0 ≤ s * ((x : Int) - (J : Int)) := Int.mul_nonneg hs0 (by omega)
          have hwm : IntKind.i64.wrap (s * ((x : Int) - (J : Int))) = s * ((x : Int) - (J : Int)) := IntWalk.i64_in _ (by omega)
          have hwi : IntKind.i64.wrap ((k : Int) + 1) = (k : Int) + 1 := IntWalk.i64_in _ (by omega)
          have hwj : IntKind.i64.wrap ((x : Int) + 1) = (x : Int) + 1 := IntWalk.i64_in _ (by omega)
          have hwx : IntKind.i64.wrap ((x : Int) - (J : Int)) = (x : Int) - (J : Int) := IntWalk.i64_in _ (by omega)
          have hwt : IntKind.i64.wrap (s * ((x : Int) - (J : Int)) + u) = s * ((x : Int) - (J : Int)) + u := IntWalk.i64_in _ (by omega)
          have hwu : IntKind.i64.wrap (s * ((x : Int) - (J : Int)) + u + f3) = s * ((x : Int) - (J : Int)) + u + f3 := IntWalk.i64_in _ (by omega)
          have ci0 : (0 : Int) ≤ (k : Int) + 1 := by omega
          have cj0 : (0 : Int) ≤ (x : Int) + 1 := by omega
          have ti : ((k : Int) + 1).toNat = k + 1 := by omega
          have tj : ((x : Int) + 1).toNat = x + 1 := by omega
          have cjn : (J : Int) < (n : Int) + 1 := by omega
          have cim : (k : Int) < (m : Int) + 1 := by omega
          by_cases hxy : x = y
          · subst hxy
            have d2 : (e0 == s * ((x : Int) - (J : Int)) + u + f3) = true := beq_iff_eq.2 (hhit.out.1 Hy3.out)
            go_upto_region 12 with fail
            go_quiet ((go_at_call 26; exact Calls.quiet_of_same ((hFar.out _).mono fun _ _ h => ⟨h.1, h.2.symm⟩)))
            have HWd : Hid (BestW w (wr.drewN nq) g m n h F gr gx v L0) := Lib.hid (HW.out.drewN nq)
            clear p0 p1 q0 q3 ra rb HW
            generalize wr.drewN nq = wQ at HWd ⊢
            have x0 : wQ.cell? ⟨gx, 0, none⟩ = some v := HWd.out.2.1.cell (i := 0) (by omega)
            have hlx := HWd.out.2.1.lt
            go_wp2_with (first | (at_builtin; refine wpList_pushA rfl (.tmp 91) (.tmp 93) 24 rfl (gx + 1) 3 _ 1 8 encInt rfl Int_info rfl (by omega) v L0 [(x : Int)] 1 rfl rfl rfl HWd.out.2.2.1 rfl encInt_len (by simp [encInt, Value.oneCell']) (by simp only [List.length_singleton]; omega) (by omega) (by omega) ?_; intro v8 w8 g8 b8 _ _; obtain ⟨A8, c8, hv8, _⟩ := g8.own encInt_len; rw [List.length_append, i2, List.length_singleton] at hv8; subst hv8; have HC8 := HWd.out.2.1.below b8 (by omega); have x1 := HC8.cell (i := 0) (by omega); have x2 := HC8.free (i := 0) (by omega); have HW8 : Hid (BestW w (w8.setCell ⟨gx, 0, none⟩ (.slice A8 (k + 1) c8)) g m n h F gr gx (.slice A8 (k + 1) c8) (L0 ++ [(x : Int)])) := Lib.hid (HWd.out.push hhlt.out hglt hrx hr0 g8 b8); clear g8 b8 HC8) | fail)
            go_roundw
            case rel => exact ⟨k + 1, _, by omega, by go_num, (by rw [hst.out]; refine congrArg _ ?_; simp), Lib.hid (by rw [hst.out]; exact HW8.out)⟩
            case measure => first | (simp [intOf]; done) | (simp [intOf]; omega)
          · have d2 : (e0 == s * ((x : Int) - (J : Int)) + u + f3) = false := beq_eq_false_iff_ne.2 (fun e => Hy4.out x hx1 (by omega) (hhit.out.2 e))
            go_upto_region 12 with fail
            go_quiet ((go_at_call 26; exact Calls.quiet_of_same ((hFar.out _).mono fun _ _ h => ⟨h.1, h.2.symm⟩)))
            go_wp2
            go_roundw
            case rel => exact ⟨x + 1, by omega, by omega, by go_num, rfl, Lib.hid (HW.out.drewN _)⟩
            case measure => first | (simp [intOf]; done) | (simp [intOf]; omega)
    · obtain rfl : k = m := by omega
      obtain ⟨A', c', hv, ho⟩ := HW.out.2.2.1.own encInt_len
      rw [i2] at hv
      subst hv
      have x0 : wr.cell? ⟨gx, 0, none⟩ = some (.slice A' k c') := HW.out.2.1.cell (i := 0) (by omega)
      have x1 : wr.cell? ⟨gx, 1, none⟩ = some (.int .i64 f0) := by have := HW.out.2.1.cell (i := 1) (by omega); rw [← hf0.out]; exact this
      have y0 : wr.cell? ⟨gr, 0, none⟩ = some (.slice none 0 0) := HW.out.2.2.2.1.cell (i := 0) (by omega)
      have y1 : wr.cell? ⟨gr, 1, none⟩ = some (.int .i64 0) := HW.out.2.2.2.1.cell (i := 1) (by omega)
      have z0 := HW.out.2.2.2.1.free (i := 0) (by omega)
      have z1 := HW.out.2.2.2.1.free (i := 1) (by omega)
      have RL := Lib.hid (ho.rd encInt_len)
      clear hmi hhi hso
      go_wp2
      have hG := (HW.out.2.2.1.set (p := ⟨gr, 0, none⟩) (show gr < gx + 1 by omega) (.slice A' k c')).set (p := ⟨gr, 1, none⟩) (show gr < gx + 1 by omega) (.int .i64 f0)
      obtain ⟨A2, c2, hv2, ho2⟩ := hG.own encInt_len
      injection hv2 with hv2 _ _
      subst hv2
      refine bodyPost_ret (v := .agg #[.slice A' k c', .int .i64 f0]) (by simp [results, Tryz.results83, go_sem, y0, y1, z0, z1]) rfl ⟨A', c', by rw [hf0.out], ho2.mono (by omega) (Nat.le_refl _), ?_⟩
      exact (HW.out.2.2.2.2.setCell (p := ⟨gr, 0, none⟩) hr0 _).setCell (p := ⟨gr, 1, none⟩) hr0 _
end Go.Proofs.YtglnehinmdmgmaaGreat
