import Derived.Test.YtkegbbndmfnolaaMBeatsL01
import Derived.Laws.AppendOwn
import Derived.Maps.AppendAt
import Derived.Test.YtkegbbndmfnolaaMBeatsL02
import Derived.Shelf.GgSortFunc.Compose
/-
  Words of our own that know no program: a list that the call itself makes, one append after the other.
-/
namespace Go.Proofs.Ytkegbbndmfnolaa
open Go.RowKit
set_option linter.unusedVariables false
set_option linter.unusedSimpArgs false

/-- The cells of a list, one element after the other. -/
def flat {α : Type} (enc : α → List Value) : List α → List Value
  | [] => []
  | x :: l => enc x ++ flat enc l
section
variable {α : Type} {enc : α → List Value} {size : Nat}
theorem flat_append (l m : List α) : flat enc (l ++ m) = flat enc l ++ flat enc m := by
  induction l with
  | nil => rfl
  | cons x l ih => simp [flat, ih]
theorem flat_len (henc : ∀ x, (enc x).length = size) (l : List α) : (flat enc l).length = l.length * size := by
  induction l with
  | nil => simp [flat]
  | cons x l ih => simp [flat, ih, henc, Nat.succ_mul]; omega
theorem flat_at (henc : ∀ x, (enc x).length = size) : ∀ (l : List α) (i : Nat) (hi : i < l.length) (j : Nat) (u : Value), (enc l[i])[j]? = some u → (flat enc l)[i * size + j]? = some u
  | x :: l, 0, hi, j, u, hu => by
    have hj : j < (enc x).length := (List.getElem?_eq_some_iff.1 hu).1
    simp only [flat]
    rw [Nat.zero_mul, Nat.zero_add, List.getElem?_append_left hj]
    exact hu
  | x :: l, i + 1, hi, j, u, hu => by
    simp only [flat]
    rw [List.getElem?_append_right (by rw [henc, Nat.succ_mul]; omega), henc]
    have := flat_at henc l i (by simpa using hi) j u (by simpa using hu)
    rw [show (i + 1) * size + j - size = i * size + j by rw [Nat.succ_mul]; omega]
    exact this
end

/-- The value v is a slice of the call's own (nil, or at the head of a block from base on) that holds the list. -/
def Grow {α : Type} (w : World) (base : Nat) (e : TypeId) (size : Nat) (enc : α → List Value) (v : Value) (l : List α) : Prop :=
  w.ownsRow base e size v l.length (flat enc l)

section
variable {α : Type} {w w' : World} {base : Nat} {e : TypeId} {size : Nat} {enc : α → List Value} {v : Value} {l : List α}
theorem Grow.nil : Grow w base e size enc (.slice none 0 0) ([] : List α) := ⟨by simp [flat], .inl ⟨rfl, rfl⟩⟩
/-- '[]T{}': a new block without cells. -/
theorem Grow.empty {b : Nat} (hb : b ≤ w.heap.size) : Grow (w.alloc (.cells #[] e)) b e size enc (.slice (some ⟨w.heap.size, 0, none⟩) 0 0) ([] : List α) :=
  ⟨by simp [flat], .inr ⟨w.heap.size, 0, #[], rfl, hb, heap_alloc_new w _, Nat.le_refl _, by simp [maxLen], by simp, by simp [flat]⟩⟩
theorem Grow.later (h : Grow w base e size enc v l) (hb : Below w.heap.size w w') : Grow w' base e size enc v l := by
  refine ⟨h.1, ?_⟩
  rcases h.2 with ⟨h1, h2⟩ | ⟨g, cap, cur, h1, h2, h3, h4⟩
  · exact .inl ⟨h1, h2⟩
  · refine .inr ⟨g, cap, cur, h1, h2, ?_, h4⟩
    have hlt : g < w.heap.size := by
      rcases Nat.lt_or_ge g w.heap.size with x | x
      · exact x
      · rw [Array.getElem?_eq_none x] at h3; cases h3
    exact (hb.block g hlt).trans h3
/-- A store below the base. -/
theorem Grow.set (h : Grow w base e size enc v l) {p : Addr} (hp : p.block < base) (u : Value) : Grow (w.setCell p u) base e size enc v l := by
  refine ⟨h.1, ?_⟩
  rcases h.2 with ⟨h1, h2⟩ | ⟨g, cap, cur, h1, h2, h3, h4⟩
  · exact .inl ⟨h1, h2⟩
  · exact .inr ⟨g, cap, cur, h1, h2, (Below.heap_setCell w p u g (by omega)).trans h3, h4⟩
theorem Grow.drewN (h : Grow w base e size enc v l) (n : Nat) : Grow (w.drewN n) base e size enc v l := h
theorem Grow.alloc (h : Grow w base e size enc v l) (o : Obj) : Grow (w.alloc o) base e size enc v l := h.later ((Below.refl _ _).alloc (Nat.le_refl _) o)
/-- What it is good for: a slice of the call's own. -/
theorem Grow.own (h : Grow w base e size enc v l) (henc : ∀ x, (enc x).length = size) : ∃ A c, v = .slice A l.length c ∧ OwnL w base w.heap.size A size enc l := by
  rcases h.2 with ⟨h1, h2⟩ | ⟨g, cap, cur, h1, h2, h3, h4, h5, h6, h7⟩
  · have : l = [] := List.eq_nil_of_length_eq_zero h2
    subst this
    exact ⟨none, 0, h1, .inl rfl⟩
  · refine ⟨_, cap, h1, .inr ⟨g, fun i => (flat enc l).getD i undef, rfl, h2, ?_, ?_, ?_⟩⟩
    · rcases Nat.lt_or_ge g w.heap.size with x | x
      · exact x
      · rw [Array.getElem?_eq_none x] at h3; cases h3
    · refine ⟨?_, fun i hi => ⟨?_, ?_⟩⟩
      · rcases Nat.lt_or_ge g w.heap.size with x | x
        · exact x
        · rw [Array.getElem?_eq_none x] at h3; cases h3
      · rw [cell_of_row w g i cur e (0, 0) h3]
        have hl := flat_len henc l
        have : (flat enc l)[i]? = cur[i]? := by
          rw [← h7, List.getElem?_take_of_lt (by omega)]
          simp
        rw [← this]
        show _ = some ((flat enc l).getD i undef)
        rw [List.getD_eq_getElem?_getD, List.getElem?_eq_getElem (by omega)]
        rfl
      · simp [World.frozen?, h3]
    · intro i hi j u hu
      show (flat enc l).getD (i * size + j) undef = u
      rw [List.getD_eq_getElem?_getD, flat_at henc l i hi j u hu]
      rfl
end

section
variable {P : Program} {ops : Array Oper} {rest : List Oper} {o : Oper} {a : Act} {Q : Exit → Act → World → Prop} {w : World}
/-- 'l = append(l, x)': its elements were just built in a block of their own. -/
theorem wpList_push {α : Type} (hgd : o.guard = none) (s x : Operand) (t : TypeId) (ho : o.op = .call { callee := .builtin .append, args := #[s, x], argTypes := #[t, t] })
    (base : Nat) (e : TypeId) (z : Value) (size bytes : Nat) (enc : α → List Value)
    (ht : P.underlying t = some (.slice e)) (hinfo : (P.info? e).map (fun i => (i.zero, i.size, i.bytes)) = some (some z, size, bytes)) (hzs : z.cells.size = size) (hsz : 0 < size)
    {news : List Value} {e' : TypeId} {g : Nat} (v : Value) (l ys : List α) (c : Nat) (hs : a.eval s = v) (hx : a.eval x = .slice (some ⟨g, 0, none⟩) ys.length c) (hg0 : g = w.heap.size)
    (hown : Grow w base e size enc v l) (hne : news = flat enc ys) (henc : ∀ x, (enc x).length = size) (h1 : ∀ u ∈ news, u.oneCell' = true)
    (hn : l.length + ys.length ≤ 1000000000) (hb : bytes ≤ 1000) (hbase : base ≤ w.heap.size)
    (h : ∀ v' w', Grow w' base e size enc v' (l ++ ys) → Below base w w' → w.grownBy w' v.ownBlock → wpList P ops Q rest (a.put o.dst v') w') :
    wpList P ops Q (o :: rest) a (w.alloc (.cells news.toArray e')) := by
  obtain ⟨i, hi, hzz⟩ := Option.map_eq_some_iff.1 hinfo
  simp only [Prod.mk.injEq] at hzz
  obtain ⟨hz, hs', hb'⟩ := hzz
  subst hne
  subst hg0
  have hmul : (l.length + ys.length) * bytes ≤ 1000000000 * 1000 := Nat.mul_le_mul hn hb
  refine wpList_append_own (P := P) _ hgd s x t ho base e i z size bytes ht hi hz hs' hb' hzs hsz v l.length (flat enc l) hs (hown.alloc _) ⟨w.heap.size, 0, none⟩ ys.length c (flat enc ys) hx (flat_len henc ys)
    (fun j u hu => by
      have e : (⟨w.heap.size, 0, none⟩ : Addr).add j = ⟨w.heap.size, j, none⟩ := by unfold Addr.add; split <;> simp_all
      rw [e, World.cell?_alloc_new]; simpa using hu) h1 (by unfold maxLen; omega) (by omega) (by simp; omega) ?_
  intro v' w' hown' hg _
  have hr : ∀ k, v.ownBlock = some k → base ≤ k := fun k hk => by
    rcases hown.2 with ⟨rfl, _⟩ | ⟨g, cap, cur, rfl, hbg, _⟩
    · simp [Value.ownBlock] at hk
    · simp [Value.ownBlock] at hk; omega
  refine h v' w' ?_ ?_ ?_
  · unfold Grow
    rw [List.length_append, flat_append]
    exact hown'
  · exact ((Below.refl base w).alloc hbase _).grown hg (by simp; omega) hr
  · exact ⟨hg.os, hg.tape, hg.output, Nat.le_trans (by simp) hg.size, fun k hk hne => (hg.block k (by simp; omega) hne).trans (Below.heap_alloc w _ k hk)⟩
end
end Go.Proofs.Ytkegbbndmfnolaa

/-
  Contracts: valid values and weights; sums; the weighted median of the reference.
-/
namespace Go.Proofs.Ytkegbbndmfnolaa
open Go.RowKit
set_option linter.unusedVariables false
set_option linter.unusedSimpArgs false
set_option maxRecDepth 100000

def valP (vs ws : List Int) : Prop := (vs.length ≤ 400 ∧ allIn vs (-10000000) 10000000) ∧ 0 < vs.length ∧ ws.length = vs.length ∧ allIn ws 1 100
theorem allIn_get {l : List Int} {lo hi : Int} (h : allIn l lo hi) {k : Nat} (hk : k < l.length) : lo ≤ l[k] ∧ l[k] ≤ hi := h _ (List.getElem_mem hk)
theorem allIn_getD {l : List Int} {lo hi : Int} (h : allIn l lo hi) {k : Nat} (hk : k < l.length) : lo ≤ l.getD k 0 ∧ l.getD k 0 ≤ hi := by rw [getD_get hk]; exact allIn_get h hk
theorem wAll_bd {ws : List Int} (h : allIn ws 1 100) : ∀ k, k ≤ ws.length → 0 ≤ wAll ws k ∧ wAll ws k ≤ 100 * k
  | 0, _ => by simp [wAll_zero]
  | k + 1, hk => by
    have ih := wAll_bd h k (by omega)
    have := allIn_getD h (k := k) (by omega)
    rw [wAll_succ]; omega
theorem wTo_bd {vs ws : List Int} (v : Int) (h : allIn ws 1 100) : ∀ k, k ≤ ws.length → 0 ≤ wTo vs ws v k ∧ wTo vs ws v k ≤ 100 * k
  | 0, _ => by simp [wTo_zero]
  | k + 1, hk => by
    have ih := wTo_bd (vs := vs) v h k (by omega)
    have := allIn_getD h (k := k) (by omega)
    rw [wTo_succ]; split <;> omega

/-- What the reference's search has found. -/
def bestInv (vs ws : List Int) (j : Nat) (b : Int) (m : Bool) : Prop :=
  (m = false → b = 0 ∧ ∀ (i : Nat) (hi : i < vs.length), i < j → ¬ halfTo vs ws vs[i]) ∧ (m = true → b ∈ vs ∧ halfTo vs ws b ∧ ∀ (i : Nat) (hi : i < vs.length), i < j → halfTo vs ws vs[i] → b ≤ vs[i])
theorem bestInv.start (vs ws : List Int) : bestInv vs ws 0 0 false := ⟨fun _ => ⟨rfl, fun i _ h => by omega⟩, fun h => by cases h⟩
theorem bestInv.keep {vs ws : List Int} {j : Nat} {b : Int} {m : Bool} (h : bestInv vs ws j b m) (hj : j < vs.length) (hn : halfTo vs ws vs[j] → m = true ∧ b ≤ vs[j]) : bestInv vs ws (j + 1) b m := by
  refine ⟨fun e => ⟨(h.1 e).1, fun i hi hl => ?_⟩, fun e => ⟨(h.2 e).1, (h.2 e).2.1, fun i hi hl hh => ?_⟩⟩
  · rcases Nat.lt_or_eq_of_le (Nat.le_of_lt_succ hl) with h' | rfl
    · exact (h.1 e).2 i hi h'
    · intro hh; have := (hn hh).1; rw [e] at this; cases this
  · rcases Nat.lt_or_eq_of_le (Nat.le_of_lt_succ hl) with h' | rfl
    · exact (h.2 e).2.2 i hi h' hh
    · exact (hn hh).2
theorem bestInv.take {vs ws : List Int} {j : Nat} {b : Int} {m : Bool} (h : bestInv vs ws j b m) (hj : j < vs.length) (hh : halfTo vs ws vs[j]) (hn : m = true → vs[j] < b) : bestInv vs ws (j + 1) vs[j] true := by
  refine ⟨fun e => Bool.noConfusion e, fun _ => ⟨List.getElem_mem hj, hh, fun i hi hl h2 => ?_⟩⟩
  rcases Nat.lt_or_eq_of_le (Nat.le_of_lt_succ hl) with h' | rfl
  · by_cases e : m = true
    · have := (h.2 e).2.2 i hi h' h2; have := hn e; omega
    · exact absurd h2 ((h.1 (by simpa using e)).2 i hi h')
  · omega
theorem bestInv.done {vs ws : List Int} {b : Int} {m : Bool} (h : bestInv vs ws vs.length b m) (hne : 0 < vs.length) (hw : ∀ i, i < vs.length → 0 ≤ ws.getD i 0) : b = medOf vs ws := by
  obtain ⟨v, hv⟩ := med_exists (vs := vs) (ws := ws) (fun e => by rw [e] at hne; simp at hne) hw
  obtain ⟨i, hi, e⟩ := List.getElem_of_mem hv.1
  cases m with
  | false => exact absurd (by rw [e]; exact hv.2.1) ((h.1 rfl).2 i hi hi)
  | true =>
    obtain ⟨h1, h2, h3⟩ := h.2 rfl
    refine (medOf_eq ⟨h1, h2, fun u hu hh => ?_⟩).symm
    obtain ⟨j, hj, rfl⟩ := List.getElem_of_mem hu
    exact h3 j hj hj hh

set_option maxHeartbeats 3200000 in
theorem l23Median_any (vs ws : List Int) (A A' : Option Addr) (c c' : Nat) (w : World) (h : RdL w w.heap.size A 1 encInt vs) (h' : RdL w w.heap.size A' 1 encInt ws) (hl : vs.length ≤ 400) (hl0 : 0 < vs.length) (hlw : ws.length = vs.length) (hw : allIn ws 1 100) :
    Calls Try.prog 83 #[.slice A vs.length c, .slice A' ws.length c'] w fun e w' => e = .returned (.int .i64 (medOf vs ws)) ∧ w = w' := by
  have H := Lib.hid h
  have H' := Lib.hid h'
  have Hw := Lib.hid hw
  have hbd := Lib.hid (wAll_bd hw)
  have hbd2 := Lib.hid (fun v => wTo_bd (vs := vs) v hw)
  have hdone : Hid (∀ b m, bestInv vs ws vs.length b m → b = medOf vs ws) := Lib.hid (fun b m hb => hb.done hl0 (fun i hi => by have := allIn_getD hw (k := i) (by omega); omega))
  obtain ⟨S, hS⟩ : ∃ S : Nat → Int, Hid (S = wAll ws) := ⟨_, Lib.hid rfl⟩
  obtain ⟨R, hR⟩ : ∃ R : Int → Nat → Int, Hid (R = wTo vs ws) := ⟨_, Lib.hid rfl⟩
  obtain ⟨M, hM⟩ : ∃ M : Int, Hid (M = medOf vs ws) := ⟨_, Lib.hid rfl⟩
  rw [← hM.out] at hdone ⊢
  rw [← hS.out] at hbd
  have hbd2' : Hid (∀ v k, k ≤ ws.length → 0 ≤ R v k ∧ R v k ≤ 100 * k) := Lib.hid (by rw [hR.out]; exact hbd2.out)
  have hle1 : ws.length ≤ vs.length := by omega
  have hle2 : vs.length ≤ ws.length := by omega
  have Hlw := Lib.hid hlw
  clear h h' hw hlw hbd2
  go_enter Try.func83, Try.ntmps83
  go_wp2
  go_loop [5, 17] (fun s i => ∃ k : Nat, k ≤ ws.length ∧ i = .int .i64 k ∧ s = .int .i64 (S k)) (fun _ i => ws.length - (intOf i).toNat)
  case atStart => exact ⟨0, by omega, by rfl, by rw [hS.out]; rfl⟩
  case round =>
    obtain ⟨k, hk, rfl, rfl⟩ := hrel
    obtain ⟨b1, b2⟩ := hbd.out k hk
    have hst : Hid (S (k + 1) = S k + ws.getD k 0) := Lib.hid (by rw [hS.out]; exact wAll_succ ws k)
    generalize hT : S k = T at b1 b2 hst ⊢
    have HT := Lib.hid hT
    clear hT
    by_cases hlt : k < ws.length
    · have hx := Hw.out _ (List.getElem_mem hlt)
      have hst2 := hst.out
      rw [getD_get hlt] at hst2
      have Hst := Lib.hid hst2
      clear hst2 hst
      obtain ⟨qg, qoff, qA, qhg, qcell⟩ := H'.out.at (k := k) (by omega)
      have qr : w.cell? ⟨qg, qoff + k, none⟩ = some (.int .i64 (ws[k]'(by omega))) := by have := qcell 0 _ rfl; rw [Nat.mul_one] at this; exact this
      obtain ⟨qx, qh⟩ : ∃ x, Hid (ws[k]'(by omega) = x) := ⟨_, Lib.hid rfl⟩
      rw [qh.out] at qr
      clear qcell
      subst qA
      rw [qh.out] at hx Hst
      obtain ⟨hx1, hx2⟩ := hx
      go_wp2
      go_round
      case rel => exact ⟨k + 1, by omega, by go_num, by rw [Hst.out]⟩
      case measure => simp [intOf]; omega
    · obtain rfl : k = ws.length := by omega
      clear hst
      have hTw : Hid (T = wAll ws vs.length) := Lib.hid (by rw [← HT.out, hS.out, Hlw.out])
      clear HT
      go_wp2
      go_loop [8, 9, 27] (fun b m i => ∃ (k : Nat) (bb : Int) (mm : Bool), k ≤ vs.length ∧ i = .int .i64 k ∧ b = .int .i64 bb ∧ m = .bool mm ∧ Hid (bestInv vs ws k bb mm)) (fun _ _ i => vs.length - (intOf i).toNat)
      case atStart => exact ⟨0, 0, false, by omega, by rfl, rfl, rfl, Lib.hid (bestInv.start vs ws)⟩
      case round =>
        obtain ⟨k, bb, mm, hk, rfl, rfl, rfl, hinv⟩ := hrel
        by_cases hlt : k < vs.length
        · obtain ⟨qg, qoff, qA, qhg, qcell⟩ := H.out.at (k := k) (by omega)
          have qr : w.cell? ⟨qg, qoff + k, none⟩ = some (.int .i64 (vs[k]'(by omega))) := by have := qcell 0 _ rfl; rw [Nat.mul_one] at this; exact this
          obtain ⟨qx, qh⟩ : ∃ x, Hid (vs[k]'(by omega) = x) := ⟨_, Lib.hid rfl⟩
          rw [qh.out] at qr
          clear qcell
          subst qA
          go_wp2
          go_loop [12, 33] (fun s i => ∃ l : Nat, l ≤ vs.length ∧ i = .int .i64 l ∧ s = .int .i64 (R qx l)) (fun _ i => vs.length - (intOf i).toNat)
          case atStart => exact ⟨0, by omega, by rfl, by rw [hR.out]; rfl⟩
          case round =>
            obtain ⟨l, hll, rfl, rfl⟩ := hrel
            obtain ⟨c1, c2⟩ := hbd2'.out qx l (by omega)
            have hst : Hid (R qx (l + 1) = R qx l + if vs.getD l 0 ≤ qx then ws.getD l 0 else 0) := Lib.hid (by rw [hR.out]; exact wTo_succ vs ws qx l)
            generalize hT2 : R qx l = T2 at c1 c2 hst ⊢
            have HT2 := Lib.hid hT2
            clear hT2
            by_cases hlt2 : l < vs.length
            · have hlt3 : l < ws.length := by omega
              have hx := Hw.out _ (List.getElem_mem hlt3)
              have hst2 := hst.out
              rw [getD_get hlt2, getD_get hlt3] at hst2
              have Hst := Lib.hid hst2
              clear hst2 hst
              obtain ⟨rg, roff, rA, rhg, rcell⟩ := H.out.at (k := l) hlt2
              have rr : w.cell? ⟨rg, roff + l, none⟩ = some (.int .i64 vs[l]) := by have := rcell 0 _ rfl; rw [Nat.mul_one] at this; exact this
              obtain ⟨rx, rh⟩ : ∃ x, Hid (vs[l] = x) := ⟨_, Lib.hid rfl⟩
              rw [rh.out] at rr Hst
              simp only [Option.some.injEq, Addr.mk.injEq, and_true] at rA
              obtain ⟨rfl, rfl⟩ := rA
              clear rcell
              obtain ⟨sg, soff, sA, shg, scell⟩ := H'.out.at (k := l) (by omega)
              have sr : w.cell? ⟨sg, soff + l, none⟩ = some (.int .i64 (ws[l]'(by omega))) := by have := scell 0 _ rfl; rw [Nat.mul_one] at this; exact this
              obtain ⟨sx, sh⟩ : ∃ x, Hid (ws[l]'(by omega) = x) := ⟨_, Lib.hid rfl⟩
              rw [sh.out] at sr
              clear scell
              subst sA
              rw [sh.out] at hx Hst
              obtain ⟨hx1, hx2⟩ := hx
              by_cases c3 : rx ≤ qx
              · have Hst2 : Hid (R qx (l + 1) = T2 + sx) := Lib.hid (by rw [Hst.out, if_pos c3])
                clear Hst
                go_wp2
                go_round
                case rel => exact ⟨l + 1, by omega, by go_num, by rw [Hst2.out]⟩
                case measure => simp [intOf]; omega
              · have Hst2 : Hid (R qx (l + 1) = T2) := Lib.hid (by rw [Hst.out, if_neg c3]; omega)
                clear Hst
                go_wp2
                go_round
                case rel => exact ⟨l + 1, by omega, by go_num, by rw [Hst2.out]⟩
                case measure => simp [intOf]; omega
            · obtain rfl : l = vs.length := by omega
              clear hst
              have hhalf : Hid (halfTo vs ws (vs[k]'hlt) ↔ T ≤ 2 * T2) := Lib.hid (by unfold halfTo; rw [qh.out, hTw.out, ← HT2.out, hR.out])
              by_cases c4 : T ≤ 2 * T2
              · have Hh := Lib.hid (hhalf.out.2 c4)
                cases mm with
                | false =>
                  go_wp2
                  go_round
                  case rel => exact ⟨k + 1, _, _, by omega, by go_num, rfl, rfl, Lib.hid (by (rw [← qh.out]; exact hinv.out.take hlt Hh.out (fun e => by cases e)))⟩
                  case measure => simp [intOf]; omega
                | true =>
                  by_cases c5 : qx < bb
                  · skip
                    go_wp2
                    go_round
                    case rel => exact ⟨k + 1, _, _, by omega, by go_num, rfl, rfl, Lib.hid (by (rw [← qh.out]; exact hinv.out.take hlt Hh.out (fun _ => by rw [qh.out]; exact c5)))⟩
                    case measure => simp [intOf]; omega
                  · skip
                    go_wp2
                    go_round
                    case rel => exact ⟨k + 1, _, _, by omega, by go_num, rfl, rfl, Lib.hid (by exact hinv.out.keep hlt (fun _ => ⟨rfl, by rw [qh.out]; omega⟩))⟩
                    case measure => simp [intOf]; omega
              · have Hh := Lib.hid (fun x => c4 (hhalf.out.1 x))
                go_wp2
                go_round
                case rel => exact ⟨k + 1, _, _, by omega, by go_num, rfl, rfl, Lib.hid (by exact hinv.out.keep hlt (fun x => absurd x Hh.out))⟩
                case measure => simp [intOf]; omega
        · obtain rfl : k = vs.length := by omega
          go_wp2
          go_ret
          exact ⟨ret_int (hdone.out _ _ hinv.out), rfl⟩
end Go.Proofs.Ytkegbbndmfnolaa

/-
  The world behind a sort of the library, in our own words: one block has turned; its cells.
-/
namespace Go.Proofs.Ytkegbbndmfnolaa
open Go.RowKit Go.Sort Go.Shelf
set_option linter.unusedVariables false
set_option linter.unusedSimpArgs false
variable {α : Type} [Inhabited α]

theorem heap_putRow (enc : α → Value) (w : World) (blk off : Nat) (d : Array α) (k : Nat) (hk : k ≠ blk) : (putRow enc w blk off d).heap[k]? = w.heap[k]? := by
  simp only [putRow, mapBlock, Array.getElem?_modify]
  rw [if_neg (fun e => hk e.symm)]
theorem chg_sortWorld (enc : α → Value) (w : World) (blk off n : Nat) (d : Array α) (os : Array Obj) : Chg blk (blk + 1) w (sortWorld enc w blk off n d os) := by
  refine ⟨rfl, rfl, rfl, ?_, fun k hk hr => ?_⟩
  · unfold sortWorld grow
    simp
  · unfold sortWorld grow
    simp only
    rw [Array.getElem?_append_left (by simpa using hk), heap_putRow _ _ _ _ _ _ (by omega)]
    rfl
theorem cells_sortWorld (enc : α → Value) (w : World) (blk n : Nat) (d0 d : Array α) (os : Array Obj) (hblk : blk < w.heap.size) (h0 : Holds enc w blk 0 d0) (hs : d.size = d0.size) :
    Cells (sortWorld enc w blk 0 n d os) blk d.size (fun i => enc d[i]!) := by
  have hh := holds_sortWorld enc w blk 0 n d0 d os hblk h0 hs
  refine ⟨lt_sortWorld enc w blk 0 n d os hblk, fun i hi => ?_⟩
  have := hh i hi
  rw [Nat.zero_add] at this
  exact this
theorem holds_own {β : Type} {w : World} {b c g : Nat} {l : List β} {enc : β → List Value} (e : α → Value) (d : Array α) (h : OwnL w b c (some ⟨g, 0, none⟩) 1 enc l) (hs : d.size = l.length) (he : ∀ i (h1 : i < d.size) (h2 : i < l.length), (enc l[i]) = [e d[i]!]) : Holds e w g 0 d := by
  intro j hj
  rw [Nat.zero_add]
  rcases h with h | ⟨g', f, hA, h1, h2, h3, h4⟩
  · have : l.length = 0 := by rw [h]; rfl
    omega
  · simp only [Option.some.injEq, Addr.mk.injEq, and_true] at hA
    subst hA
    have := h4 j (by omega) 0 (e d[j]!) (by rw [he j hj (by omega)]; rfl)
    have hc := h3.cell (i := j) (by omega)
    rw [Nat.mul_one, Nat.add_zero] at this
    rw [this] at hc
    exact ⟨hc, h3.free (by omega)⟩
end Go.Proofs.Ytkegbbndmfnolaa
