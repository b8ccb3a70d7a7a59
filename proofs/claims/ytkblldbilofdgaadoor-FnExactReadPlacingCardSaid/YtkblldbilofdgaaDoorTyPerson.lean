/-
  Contracts of the helper functions that the laws use for lists of people (a name and a list of skills).
-/
import Derived.Test.YtkblldbilofdgaaDoorTyIntS
import Derived.Test.YtkblldbilofdgaaDoorOpenCs
namespace Go.Proofs.YtkblldbilofdgaaDoor
open Go.RowKit Go.ChangeShapes Go.WideShapes Go.Deep
set_option linter.unusedVariables false
set_option linter.unusedSimpArgs false
set_option maxRecDepth 100000

/-- A person in memory: the name; the skills, their address, their room. -/
structure Psn where
  name : ByteArray
  x : List Int
  A : Option Addr
  c : Nat
def Psn.enc (p : Psn) : List Value := [.string p.name, .slice p.A p.x.length p.c]
theorem Psn_enc_len (p : Psn) : (Psn.enc p).length = 2 := rfl
/-- A person: a name and the skills. -/
abbrev Pk := ByteArray × List Int
def Psn.key (p : Psn) : Pk := (p.name, p.x)
def Person_small (lim : Int) (x : Pk) : Prop := (x.1.size : Int) ≤ lim ∧ (x.2.length : Int) ≤ lim
theorem Person_info : (Tryd.prog.info? 40).map (fun i => (i.zero, i.size, i.bytes)) = some (some (.agg #[.string ⟨#[]⟩, .slice none 0 0]), 2, 40) := by kernel_rfl
abbrev RdNP (w : World) (b : Nat) (A : Option Addr) (D : List Psn) : Prop := RdN w b A 2 Psn.enc Psn.A Psn.x 1 encInt D
abbrev OwnNP (w : World) (b c : Nat) (A : Option Addr) (D : List Psn) : Prop := OwnN w b c A 2 Psn.enc Psn.A Psn.x 1 encInt D
def RdP (w : World) (b : Nat) (A : Option Addr) (l : List Pk) : Prop := ∃ D : List Psn, D.map Psn.key = l ∧ RdNP w b A D
def OwnP (w : World) (b c : Nat) (A : Option Addr) (l : List Pk) : Prop := ∃ D : List Psn, D.map Psn.key = l ∧ OwnNP w b c A D
section
variable {w w' : World} {b b' c c' k : Nat} {A : Option Addr} {l : List Pk}
theorem RdP.below (h : RdP w b A l) (hb : Below k w w') (hc : b ≤ k) : RdP w' b A l := by obtain ⟨D, hD, h⟩ := h; exact ⟨D, hD, h.below hb hc⟩
theorem RdP.more (h : RdP w b A l) (hb : b ≤ b') : RdP w b' A l := by obtain ⟨D, hD, h⟩ := h; exact ⟨D, hD, h.more hb⟩
theorem OwnP.nil : OwnP w b c A [] := ⟨[], rfl, OwnN.nil⟩
theorem OwnP.rd (h : OwnP w b c A l) (_ : True) : RdP w w.heap.size A l := by obtain ⟨D, hD, h⟩ := h; exact ⟨D, hD, h.rd Psn_enc_len encInt_len⟩
theorem OwnP.later (h : OwnP w b c A l) (hb : Below w.heap.size w w') : OwnP w' b c A l := by obtain ⟨D, hD, h⟩ := h; exact ⟨D, hD, h.later hb⟩
theorem OwnP.chg (h : OwnP w b c A l) (k : Chg b' c' w w') (hr : c ≤ b' ∨ c' ≤ b) : OwnP w' b c A l := by obtain ⟨D, hD, h⟩ := h; exact ⟨D, hD, h.chg k hr⟩
theorem OwnP.mono (h : OwnP w b c A l) (hb : b' ≤ b) (hc : c ≤ c') : OwnP w b' c' A l := by obtain ⟨D, hD, h⟩ := h; exact ⟨D, hD, h.mono hb hc⟩
end
theorem OwnL.one {α : Type} {w : World} {b c : Nat} {A : Option Addr} {size : Nat} {enc : α → List Value} {l : List α} (h : OwnL w b c A size enc l) (hbc : b < c) : ∃ g, b ≤ g ∧ g < c ∧ OwnL w g (g + 1) A size enc l := by
  rcases h with h | ⟨g, f, rfl, h1, h2, h3⟩
  · exact ⟨b, Nat.le_refl _, hbc, .inl h⟩
  · exact ⟨g, h1, h2, .inr ⟨g, f, rfl, Nat.le_refl _, by omega, h3⟩⟩
theorem fill_congr {α : Type} {enc : α → List Value} {size : Nat} {l l' : List α} {z : Nat → Value} {k : Nat} (h : k ≤ l.length) (h' : k ≤ l'.length) (he : ∀ (i : Nat) (h1 : i < l.length) (h2 : i < l'.length), i < k → l[i] = l'[i]) : fill enc size l z k = fill enc size l' z k := by
  funext p
  unfold fill
  by_cases hp : p / size < k
  · rw [dif_pos ⟨hp, by omega⟩, dif_pos ⟨hp, by omega⟩, he _ _ _ hp]
  · rw [dif_neg (fun h => hp h.1), dif_neg (fun h => hp h.1)]

section
variable {δ β : Type} {w w' : World} {b : Nat} {iA : δ → Option Addr} {ix : δ → List β} {ib : Nat} {eb : β → List Value} {D : List δ} {k : Nat}
/-- The inner slices of the first k elements lie each in a block of its own, from b on. -/
def Inn (w : World) (b : Nat) (iA : δ → Option Addr) (ix : δ → List β) (ib : Nat) (eb : β → List Value) (D : List δ) (k : Nat) : Prop :=
  ∃ h : Nat → Nat, ∀ (i : Nat) (hi : i < D.length), i < k → b ≤ h i ∧ h i < w.heap.size ∧ OwnL w (h i) (h i + 1) (iA D[i]) ib eb (ix D[i]) ∧ ∀ j, j < i → h j ≠ h i
theorem Inn.zero : Inn w b iA ix ib eb D 0 := ⟨fun i => i, fun i _ h => by omega⟩
theorem Inn.later (h : Inn w b iA ix ib eb D k) (hb : Below w.heap.size w w') : Inn w' b iA ix ib eb D k := by
  obtain ⟨hh, hi⟩ := h
  exact ⟨hh, fun i hlt hk => ⟨(hi i hlt hk).1, Nat.lt_of_lt_of_le (hi i hlt hk).2.1 hb.size, (hi i hlt hk).2.2.1.later hb, (hi i hlt hk).2.2.2⟩⟩
theorem Inn.chg {b' c' : Nat} (h : Inn w b iA ix ib eb D k) (hc : Chg b' c' w w') (hr : c' ≤ b) : Inn w' b iA ix ib eb D k := by
  obtain ⟨hh, hi⟩ := h
  exact ⟨hh, fun i hlt hk => ⟨(hi i hlt hk).1, Nat.lt_of_lt_of_le (hi i hlt hk).2.1 hc.size, (hi i hlt hk).2.2.1.chg hc (by have := (hi i hlt hk).1; omega), (hi i hlt hk).2.2.2⟩⟩
theorem Inn.step {g : Nat} (h : Inn w b iA ix ib eb D k) (hbw : b ≤ w.heap.size) (hb : Below w.heap.size w w') (hg : w.heap.size ≤ g) (hg2 : g < w'.heap.size) (d : δ) (ho : OwnL w' g (g + 1) (iA d) ib eb (ix d)) (hk : k < D.length) : Inn w' b iA ix ib eb (D.set k d) (k + 1) := by
  obtain ⟨hh, hi⟩ := h.later hb
  obtain ⟨hh0, hi0⟩ := h
  clear hi hh
  refine ⟨fun i => if i < k then hh0 i else g, fun i hlt hk1 => ?_⟩
  by_cases e : i < k
  · have hlt2 : i < D.length := by omega
    have h4 := hi0 i hlt2 e
    simp only [if_pos e]
    rw [List.getElem_set_ne (by omega)]
    exact ⟨h4.1, by have := hb.size; omega, h4.2.2.1.later hb, fun j hj => by rw [if_pos (by omega)]; exact h4.2.2.2 j hj⟩
  · obtain rfl : i = k := by omega
    simp only [if_neg e]
    rw [List.getElem_set_self]
    exact ⟨by omega, hg2, ho, fun j hj => by rw [if_pos hj]; have := (hi0 j (by omega) hj).2.1; omega⟩
theorem Inn.own {g : Nat} {A : Option Addr} {size : Nat} {enc : δ → List Value} {b0 : Nat} (h : Inn w b iA ix ib eb D D.length) (hb : g < b) (hb0 : b0 ≤ g) (hg : g < w.heap.size) (ho : OwnL w g (g + 1) A size enc D) : OwnN w b0 w.heap.size A size enc iA ix ib eb D := by
  obtain ⟨hh, hi⟩ := h
  exact .inr ⟨g, hh, hb0, hg, ho, fun i hlt => ⟨by have := (hi i hlt hlt).1; omega, (hi i hlt hlt).2.1, by have := (hi i hlt hlt).1; omega, (hi i hlt hlt).2.2⟩⟩
end
theorem Chg.setN {b c g : Nat} {a : World} (hg : b ≤ g) (hc : g < c) : ∀ (vs : List Value) {w : World} {p : Nat}, Chg b c a w → Chg b c a (setN w g p vs)
  | [], _, _, h => h
  | v :: vs, _, _, h => Chg.setN hg hc vs (h.setCell hg hc v)
theorem Person_el {H : Type} {en : TypeId × Value → H} {w : World} {base : Nat} {spare : Nat → Bool} {held : Bool} (n : Nat) (cs : List Value) (y : DataW H × List MemPlace) (h : DataW.trod en Tryd.prog w base spare held n 36 cs = some y) : ∃ x : Psn, cs = Psn.enc x ∧ (Person_small 9223372036854775807 x.key ∧ RdL w w.heap.size x.A 1 encInt x.x) := by
  obtain ⟨xs, m, _, _, hlen, hxl, hg⟩ := DataW.trod_struct Tryd.underlying36 h
  have hC : Tryd.prog.cellsOf 36 = 2 := by kernel_rfl
  have hC_string : Tryd.prog.cellsOf 9 = 1 := by kernel_rfl
  have hC_sl : Tryd.prog.cellsOf 24 = 1 := by kernel_rfl
  rw [hC] at hlen
  match cs, hlen, xs, hxl with
  | [c0, c1], _, [x0, x1], _ =>
    have g0 := hg 0 _ rfl
    simp only [hC_string, List.drop_zero, List.drop_succ_cons, List.take_succ_cons, List.take_zero, List.getElem?_cons_zero, List.getElem?_cons_succ] at g0
    obtain ⟨a0, e0, _, s0⟩ := DataW.trod_string Tryd.underlying9 g0
    injection e0 with e0 _
    subst e0
    have g1 := hg 1 _ rfl
    simp only [hC_sl, List.drop_zero, List.drop_succ_cons, List.take_succ_cons, List.take_zero, List.getElem?_cons_zero, List.getElem?_cons_succ] at g1
    obtain ⟨A, l, c, e1, hl, hr, _⟩ := open_list_cs Tryd.underlying24 1 (by kernel_rfl) (by omega) encInt (Int_small 9223372036854775807) Int_el g1
    injection e1 with e1 _
    subst e1
    refine ⟨⟨a0, l, A, c⟩, rfl, ⟨?_, ?_⟩, hr⟩
    · simp only [Psn.key]; unfold maxLen at s0; omega
    · simp only [Psn.key]; unfold maxLen at hl; omega
theorem szIntS_ex (l : List Int) (A : Option Addr) (c : Nat) (left : Int) (w : World) (hl : l.length ≤ 9223372036854775807) (h1 : 0 ≤ left) (h2 : left ≤ 1048576) :
    Calls Tryd.prog 27 #[.slice A l.length c, .int .i64 left] w fun e w' => ∃ r, e = .returned (.int .i64 r) ∧ (r < 0 ∨ (0 ≤ r ∧ r = left - l.length)) ∧ Below w.heap.size w w' := by
  by_cases hn : left < l.length
  · go_enter Tryd.func27, Tryd.ntmps27
    go_wp2
    go_ret
    exact ⟨_, rfl, .inl (by omega), Below.refl _ _⟩
  · go_enter Tryd.func27, Tryd.ntmps27
    go_wp2
    go_ret
    exact ⟨_, rfl, .inr ⟨by omega, rfl⟩, Below.refl _ _⟩
/-- How many skills there are. -/
def totP (l : List Pk) : Nat := tot (l.map Prod.snd)
def cntP (l : List Pk) : Nat := l.length + totP l
theorem totP_take_succ (D : List Psn) (k : Nat) (hk : k < D.length) : totP ((D.map Psn.key).take (k + 1)) = totP ((D.map Psn.key).take k) + D[k].x.length := by
  unfold totP
  rw [List.map_take, List.map_take, tot_take_succ _ k (by simpa using hk)]
  simp [Psn.key]
theorem szPerson_any (x : Psn) (left : Int) (w : World) (h1 : 0 ≤ left) (h2 : left ≤ 1048576) (hs : Person_small 9223372036854775807 x.key) :
    Calls Tryd.prog 13 #[.agg #[.string x.name, .slice x.A x.x.length x.c], .int .i64 left] w fun e w' => ∃ r, e = .returned (.int .i64 r) ∧ (r = -1 ∨ (0 ≤ r ∧ r + x.x.length ≤ left ∧ Person_small left x.key)) ∧ Below w.heap.size w w' := by
  simp only [Person_small, Psn.key] at hs ⊢
  obtain ⟨s0, s1⟩ := hs
  by_cases hn : left < x.name.size
  · go_enter Tryd.func13, Tryd.ntmps13
    go_wp2
    go_ret
    exact ⟨_, rfl, .inl rfl, (by repeat (first | exact Below.refl _ _ | (refine Below.alloc ?_ (by simp <;> omega) _)))⟩
  · go_enter Tryd.func13, Tryd.ntmps13
    go_wp2_with (go_at_call 27; refine (szIntS_ex x.x x.A x.c (left - x.name.size) _ (by omega) (by omega) (by omega)).mono ?_; rintro e w' ⟨r, rfl, hz, hb⟩)
    all_goals have hb2 : Below w.heap.size w (w.alloc (.cells #[.string x.name, .slice x.A x.x.length x.c] 36)) := (Below.refl _ _).alloc (Nat.le_refl _) _
    all_goals have hb3 := hb2.trans (hb.mono hb2.size)
    all_goals
      first
        | (go_ret
           exact ⟨-1, rfl, .inl rfl, hb3⟩)
        | (have hz2 := hz.resolve_left (by omega)
           go_ret
           exact ⟨_, rfl, .inr ⟨by omega, by omega, by omega, by omega⟩, hb3⟩)
set_option maxHeartbeats 800000 in
theorem szPersonS_any (l : List Pk) (A : Option Addr) (c : Nat) (left : Int) (w : World) (h : RdP w w.heap.size A l) (hl : l.length ≤ 9223372036854775807) (h1 : 0 ≤ left) (h2 : left ≤ 1048576) (hs : ∀ x ∈ l, Person_small 9223372036854775807 x) :
    Calls Tryd.prog 4 #[.slice A l.length c, .int .i64 left] w fun e w' => ∃ r, e = .returned (.int .i64 r) ∧ SzOk r left l.length ((∀ x ∈ l, Person_small left x) ∧ (totP l : Int) ≤ left) ∧ Below w.heap.size w w' := by
  obtain ⟨D, rfl, hr, _⟩ := h
  rw [List.length_map] at hl ⊢
  have Hs := Lib.hid hs
  have Hr := Lib.hid hr
  clear hs hr
  by_cases hn : left < D.length
  · go_enter Tryd.func4, Tryd.ntmps4
    go_wp2
    go_ret
    exact ⟨_, rfl, .inl (by omega), Below.refl _ _⟩
  · go_enter Tryd.func4, Tryd.ntmps4
    go_wp2
    go_loopw [1, 5] (fun v i wr => ∃ (k : Nat) (r : Int), k ≤ D.length ∧ i = .int .i64 k ∧ v = .int .i64 r ∧ 0 ≤ r ∧ r + totP ((D.map Psn.key).take k) ≤ left ∧ (∀ (j : Nat) (hj : j < D.length), j < k → Person_small left D[j].key) ∧ Below w.heap.size w wr) (fun _ i _ => D.length - (intOf i).toNat)
    case atStart =>
      have h0 : totP ((D.map Psn.key).take 0) = 0 := by simp [totP, tot]
      exact ⟨0, left - D.length, by omega, by rfl, rfl, by omega, by rw [h0]; omega, fun j _ hj => by omega, Below.refl _ _⟩
    case round =>
      obtain ⟨k, r, hk, rfl, rfl, hr0, hr1, hsm, hbl⟩ := hrel
      have Hbl := Lib.hid hbl
      have Hsm := Lib.hid hsm
      clear hbl hsm
      by_cases hlt : k < D.length
      · have htk := Lib.hid (totP_take_succ D k hlt)
        have hr2 := Lib.hid hr1
        have hr3 : r ≤ left := by omega
        obtain ⟨g, off, hA, hg, hcell⟩ := Hr.out.at hlt
        subst hA
        have r0 := (Hbl.out.cell (p := ⟨g, off + k * 2, none⟩) hg).trans (hcell 0 _ rfl)
        have r1 := (Hbl.out.cell (p := ⟨g, off + k * 2 + 1, none⟩) hg).trans (hcell 1 _ rfl)
        have hgs := Hbl.out.size
        clear hr1
        obtain ⟨x, hx⟩ : ∃ x, Hid (D[k] = x) := ⟨D[k], Lib.hid rfl⟩
        have hxs : Person_small 9223372036854775807 x.key := by have := Hs.out _ (List.mem_map.2 ⟨_, List.getElem_mem hlt, rfl⟩); rw [hx.out] at this; exact this
        rw [hx.out] at r0 r1
        clear hcell
        have Hxs := Lib.hid hxs
        clear hxs
        go_wp2_with (go_at_call 13; refine (szPerson_any x r _ hr0 (by omega) Hxs.out).mono ?_; rintro e w' ⟨q, rfl, hq, hb2⟩; have Hq := Lib.hid hq; clear hq)
        all_goals
          first
            | (go_ret
               exact ⟨-1, rfl, .inl (by omega), Hbl.out.trans (hb2.mono hgs)⟩)
            | (have hq := Hq.out.resolve_left (by omega)
               go_roundw
               case rel =>
                 refine ⟨k + 1, _, by omega, by go_num, rfl, by omega, by have h8 := htk.out; rw [hx.out] at h8; rw [h8]; have := hr2.out; have := hq.2.1; omega, fun j hj hj1 => ?_, Hbl.out.trans (hb2.mono hgs)⟩
                 rcases Nat.lt_or_eq_of_le (Nat.le_of_lt_succ hj1) with h' | rfl
                 · exact Hsm.out j hj h'
                 · rw [hx.out]; have := hq.2.2; simp only [Person_small] at this ⊢; omega
               case measure => simp [intOf]; omega)
      · go_wp2
        go_ret
        have hal : k = D.length := by omega
        have hr4 : r + totP (D.map Psn.key) ≤ left := by have := hr1; rw [List.take_of_length_le (by simp; omega)] at this; exact this
        refine ⟨_, rfl, .inr ⟨hr0, by omega, by omega, fun x hx => ?_, by omega⟩, Hbl.out⟩
        obtain ⟨p, hp, rfl⟩ := List.mem_map.1 hx
        obtain ⟨j, hj, rfl⟩ := List.getElem_of_mem hp
        exact Hsm.out j hj (by omega)

set_option maxHeartbeats 800000 in
theorem toPerson_any (x : Psn) (w : World) (h : RdL w w.heap.size x.A 1 encInt x.x) (hl : x.x.length ≤ 1048576) :
    Calls Tryd.prog 18 #[.agg #[.string x.name, .slice x.A x.x.length x.c]] w fun e w' => ∃ A' g, e = .returned (.agg #[.string x.name, .slice A' x.x.length x.x.length]) ∧ w.heap.size ≤ g ∧ g < w'.heap.size ∧ OwnL w' g (g + 1) A' 1 encInt x.x ∧ Below w.heap.size w w' := by
  have H := Lib.hid h
  clear h
  go_enter Tryd.func18, Tryd.ntmps18
  go_wp2_with (go_at_call 33; refine (toIntS_any x.x x.A x.c _ ((H.out.below (show Below w.heap.size w _ from by repeat (first | exact Below.refl _ _ | refine Below.alloc ?_ (by simp <;> omega) _)) (Nat.le_refl _)).more (by simp <;> omega)) hl).mono ?_; rintro e w1 ⟨A', rfl, ho, hb⟩; have q0 := (hb.cell (p := ⟨w.heap.size + 1 + 1, 0, none⟩) (by simp)).trans (show _ = some _ from by simp [go_sem]; rfl); have q1 := (hb.cell (p := ⟨w.heap.size + 1 + 1, 1, none⟩) (by simp)).trans (show _ = some _ from by simp [go_sem]; rfl); have fq0 : w1.frozen? ⟨w.heap.size + 1 + 1, 0, none⟩ = false := (hb.frozen (p := ⟨w.heap.size + 1 + 1, 0, none⟩) (by simp)).trans (by simp [go_sem]); have fq1 : w1.frozen? ⟨w.heap.size + 1 + 1, 1, none⟩ = false := (hb.frozen (p := ⟨w.heap.size + 1 + 1, 1, none⟩) (by simp)).trans (by simp [go_sem]); have p0 := (hb.cell (p := ⟨w.heap.size + 1, 0, none⟩) (by simp)).trans (show _ = some _ from by simp [go_sem]; rfl); have p1 := (hb.cell (p := ⟨w.heap.size + 1, 1, none⟩) (by simp)).trans (show _ = some _ from by simp [go_sem]; rfl); have fp0 : w1.frozen? ⟨w.heap.size + 1, 0, none⟩ = false := (hb.frozen (p := ⟨w.heap.size + 1, 0, none⟩) (by simp)).trans (by simp [go_sem]); have fp1 : w1.frozen? ⟨w.heap.size + 1, 1, none⟩ = false := (hb.frozen (p := ⟨w.heap.size + 1, 1, none⟩) (by simp)).trans (by simp [go_sem]))
  refine bodyPost_ret (v := .agg #[.string x.name, .slice A' x.x.length x.x.length]) (by simp [results, Tryd.results18, go_sem, p0, p1, q0, q1]) rfl ?_
  have hs : w.heap.size + 3 ≤ w1.heap.size := by have := hb.size; simpa using this
  have hch : Chg (w.heap.size + 1) (w.heap.size + 3) w1 (((w1.setCell ⟨w.heap.size + 1 + 1, 1, none⟩ (.slice A' x.x.length x.x.length)).setCell ⟨w.heap.size + 1, 0, none⟩ (.string x.name)).setCell ⟨w.heap.size + 1, 1, none⟩ (.slice A' x.x.length x.x.length)) :=
    (((Chg.refl _ _ _).setCell (by simp) (by simp) _).setCell (by simp) (by simp) _).setCell (by simp) (by simp) _
  have hbw : Below w.heap.size w w1 := (show Below w.heap.size w _ from by repeat (first | exact Below.refl _ _ | refine Below.alloc ?_ (by simp <;> omega) _)).trans (hb.mono (by simp <;> omega))
  refine ⟨A', ?_⟩
  rcases ho with h0 | ⟨g, f, hA, h1, h2, h3⟩
  · exact ⟨w.heap.size, rfl, Nat.le_refl _, by simp; omega, .inl h0, Below.chg hbw hch (by omega) (by omega)⟩
  · have h1' : w.heap.size + 3 ≤ g := by simpa using h1
    exact ⟨g, rfl, by omega, by simp; omega, (show OwnL w1 g (g + 1) A' 1 encInt x.x from .inr ⟨g, f, hA, Nat.le_refl _, by omega, h3⟩).chg hch (by omega), Below.chg hbw hch (by omega) (by omega)⟩
set_option maxHeartbeats 1600000 in
theorem toPersonS_any (l : List Pk) (A : Option Addr) (c : Nat) (w : World) (h : RdP w w.heap.size A l) (hl : l.length ≤ 1048576) (hs : ∀ x ∈ l, Person_small 1048576 x) :
    Calls Tryd.prog 6 #[.slice A l.length c] w fun e w' => ∃ A', e = .returned (.slice A' l.length l.length) ∧ OwnP w' w.heap.size w'.heap.size A' l ∧ Below w.heap.size w w' := by
  obtain ⟨D, rfl, hr, hi⟩ := h
  rw [List.length_map] at hl ⊢
  have Hr := Lib.hid hr
  have Hi := Lib.hid hi
  have Hs := Lib.hid hs
  clear hr hi hs
  go_enter Tryd.func6, Tryd.ntmps6
  go_wp2_with (refine wpList_make_cellsN rfl 27 _ rfl 40 _ 2 40 rfl Person_info rfl .i64 D.length rfl (by omega) (by omega) ?_; intro w1 hc1 hb1)
  go_loopw [4] (fun i wr => ∃ (k : Nat) (E : List Psn), k ≤ D.length ∧ i = .int .i64 k ∧ Hid (E.length = D.length ∧ ∀ (i : Nat) (h1 : i < E.length) (h2 : i < D.length), i < k → E[i].key = D[i].key) ∧ Cells wr w.heap.size (D.length * 2) (fill Psn.enc 2 E (fun i => (Value.agg #[.string ⟨#[]⟩, .slice none 0 0]).cells.getD (i % 2) undef) k) ∧ Inn wr (w.heap.size + 1) Psn.A Psn.x 1 encInt E k ∧ Below w.heap.size w wr) (fun i _ => D.length - (intOf i).toNat)
  case atStart => exact ⟨0, D, by omega, by rfl, Lib.hid ⟨rfl, fun i _ _ h => by omega⟩, by rw [fill_zero]; exact hc1, Inn.zero, hb1⟩
  case round =>
    obtain ⟨k, E, hk, rfl, HE, hc, hin, hbl⟩ := hrel
    have Hc := Lib.hid hc
    have Hin := Lib.hid hin
    have Hbl := Lib.hid hbl
    have hgs : w.heap.size < wr.heap.size := hc.lt
    clear hc hin hbl hc1 hb1
    by_cases hlt : k < D.length
    · obtain ⟨g, off, hA, hg, hcell⟩ := Hr.out.at hlt
      subst hA
      have r0 := (Hbl.out.cell (p := ⟨g, off + k * 2, none⟩) hg).trans (hcell 0 _ rfl)
      have r1 := (Hbl.out.cell (p := ⟨g, off + k * 2 + 1, none⟩) hg).trans (hcell 1 _ rfl)
      have hrk := Hi.out _ (List.getElem_mem hlt)
      have hsk := (Hs.out _ (List.mem_map.2 ⟨_, List.getElem_mem hlt, rfl⟩)).2
      obtain ⟨x, hx⟩ : ∃ x, Hid (D[k] = x) := ⟨D[k], Lib.hid rfl⟩
      rw [hx.out] at r0 r1 hrk hsk
      have Hrk := Lib.hid hrk
      have hxl : x.x.length ≤ 1048576 := by simp only [Psn.key] at hsk; omega
      clear hcell hrk hsk
      go_wp2_with (go_at_call 18; refine (toPerson_any x _ ((Hrk.out.below Hbl.out (Nat.le_refl _)).more (by omega)) hxl).mono ?_; rintro e w' ⟨A2, gi, rfl, hg1, hg2, ho2, hb2⟩; have q0 := (Hc.out.later hb2).cell (i := k * 2) (by omega); have f0 := (Hc.out.later hb2).free (i := k * 2) (by omega); have q1 := (Hc.out.later hb2).cell (i := k * 2 + 1) (by omega); have f1 := (Hc.out.later hb2).free (i := k * 2 + 1) (by omega); have Ho2 := Lib.hid ho2; clear ho2)
      go_roundw
      case rel =>
        have hEl := HE.out.1
        refine ⟨k + 1, E.set k ⟨x.name, x.x, A2, x.x.length⟩, by omega, by go_num, Lib.hid ⟨by simpa using hEl, fun i h1 h2 h3 => ?_⟩, ?_, ?_, Below.setN (Nat.le_refl _) [_, _] (Hbl.out.trans (hb2.mono (by omega)))⟩
        · by_cases e : i = k
          · subst e; rw [List.getElem_set_self, hx.out]; rfl
          · rw [List.getElem_set_ne (by omega)]; exact HE.out.2 i (by simpa using h1) h2 (by omega)
        · have hc3 := Hc.out.later hb2
          rw [fill_congr (l' := E.set k ⟨x.name, x.x, A2, x.x.length⟩) (by omega) (by simp; omega) (fun i h1 h2 h3 => by rw [List.getElem_set_ne (by omega)])] at hc3
          have hl3 : (E.set k ⟨x.name, x.x, A2, x.x.length⟩).length = D.length := by simpa using hEl
          rw [← hl3] at hc3 ⊢
          exact hc3.fillN (by omega) Psn_enc_len (by omega) rfl [_, _] (by rw [List.getElem_set_self]; rfl)
        · exact (Hin.out.step (by omega) hb2 hg1 hg2 ⟨x.name, x.x, A2, x.x.length⟩ Ho2.out (by omega)).chg (Chg.setN (Nat.le_refl _) (Nat.lt_succ_self _) [_, _] (Chg.refl w.heap.size (w.heap.size + 1) _)) (Nat.le_refl _)
      case measure => simp [intOf]; omega
    · obtain rfl : k = D.length := by omega
      go_wp2
      go_ret
      have hEl := HE.out.1
      refine ⟨_, rfl, ⟨E, ?_, ?_⟩, Hbl.out⟩
      · apply List.ext_getElem
        · simp [hEl]
        · intro i h1 h2
          simp only [List.getElem_map]
          exact HE.out.2 i (by simpa using h1) (by simpa using h2) (by simpa using h2)
      · have hc2 := Hc.out
        rw [← hEl] at hc2
        have hin2 := Hin.out
        rw [← hEl] at hin2
        exact hin2.own (by omega) (Nat.le_refl _) hgs (OwnL.of_fill hc2 (Nat.le_refl _) (Nat.le_refl _) (by omega) Psn_enc_len)
theorem eqPerson_t (x : Psn) (A' : Option Addr) (c' : Nat) (w : World) (h : RdL w w.heap.size x.A 1 encInt x.x) (h' : RdL w w.heap.size A' 1 encInt x.x) (hl : x.x.length ≤ 1048576) :
    Calls Tryd.prog 25 #[.agg #[.string x.name, .slice x.A x.x.length x.c], .agg #[.string x.name, .slice A' x.x.length c']] w fun e w' => e = .returned (.bool true) ∧ Below w.heap.size w w' := by
  have H := Lib.hid h
  have H' := Lib.hid h'
  clear h h'
  have hbA : Hid (Below w.heap.size w ((w.alloc (.cells #[.string x.name, .slice x.A x.x.length x.c] 40)).alloc (.cells #[.string x.name, .slice A' x.x.length c'] 40))) := Lib.hid (((Below.refl _ _).alloc (Nat.le_refl _) _).alloc (by simp) _)
  have hbs := hbA.out.size
  go_enter Tryd.func25, Tryd.ntmps25
  go_wp2_with (go_at_call 8; refine (eqIntS_t x.x x.A A' x.c c' _ ((H.out.below hbA.out (Nat.le_refl _)).more hbs) ((H'.out.below hbA.out (Nat.le_refl _)).more hbs) (by omega)).mono ?_; rintro e w' ⟨rfl, hb2⟩)
  go_ret
  exact ⟨rfl, hbA.out.trans (hb2.mono hbs)⟩
set_option maxHeartbeats 1600000 in
theorem eqPersonS_t (l : List Pk) (A A' : Option Addr) (c c' : Nat) (w : World) (h : RdP w w.heap.size A l) (h' : RdP w w.heap.size A' l) (hl : l.length ≤ 1048576) (hs : ∀ x ∈ l, Person_small 1048576 x) :
    Calls Tryd.prog 9 #[.slice A l.length c, .slice A' l.length c'] w fun e w' => e = .returned (.bool true) ∧ Below w.heap.size w w' := by
  obtain ⟨D, rfl, hr, hi⟩ := h
  obtain ⟨D', hD', hr', hi'⟩ := h'
  rw [List.length_map] at hl ⊢
  have hn' : D'.length = D.length := by have := congrArg List.length hD'; simpa using this
  have hx : ∀ (k : Nat) (h1 : k < D.length) (h2 : k < D'.length), D'[k].key = D[k].key := fun k h1 h2 => by
    have e1 : (D'.map Psn.key)[k]? = (D.map Psn.key)[k]? := by rw [hD']
    simpa [h1, h2] using e1
  have Hx := Lib.hid hx
  have Hn := Lib.hid hn'
  have Hr := Lib.hid hr
  have Hr' := Lib.hid hr'
  have Hi := Lib.hid hi
  have Hi' := Lib.hid hi'
  have Hs := Lib.hid hs
  clear hx hn' hD' hr hr' hi hi' hs
  go_enter Tryd.func9, Tryd.ntmps9
  go_wp2
  go_loopw [5] (fun i wr => ∃ k : Nat, k ≤ D.length ∧ i = .int .i64 k ∧ Below w.heap.size w wr) (fun i _ => D.length - (intOf i).toNat)
  case atStart => exact ⟨0, by omega, by rfl, Below.refl _ _⟩
  case round =>
    obtain ⟨k, hk, rfl, hbl⟩ := hrel
    have Hbl := Lib.hid hbl
    have hgs := hbl.size
    clear hbl
    by_cases hlt : k < D.length
    · have hlt' : k < D'.length := by rw [Hn.out]; exact hlt
      obtain ⟨g, off, hA, hg, hcell⟩ := Hr.out.at hlt
      obtain ⟨g', off', hA', hg', hcell'⟩ := Hr'.out.at hlt'
      subst hA hA'
      have r0 := (Hbl.out.cell (p := ⟨g, off + k * 2, none⟩) hg).trans (hcell 0 _ rfl)
      have r1 := (Hbl.out.cell (p := ⟨g, off + k * 2 + 1, none⟩) hg).trans (hcell 1 _ rfl)
      have q0 := (Hbl.out.cell (p := ⟨g', off' + k * 2, none⟩) hg').trans (hcell' 0 _ rfl)
      have q1 := (Hbl.out.cell (p := ⟨g', off' + k * 2 + 1, none⟩) hg').trans (hcell' 1 _ rfl)
      have hrk := Hi.out _ (List.getElem_mem hlt)
      have hrk' := Hi'.out _ (List.getElem_mem hlt')
      have hsk := (Hs.out _ (List.mem_map.2 ⟨_, List.getElem_mem hlt, rfl⟩)).2
      have hkk := Hx.out k hlt hlt'
      obtain ⟨x, hx⟩ : ∃ x, Hid (D[k] = x) := ⟨D[k], Lib.hid rfl⟩
      rw [hx.out] at r0 r1 hrk hsk hkk
      have hkn : D'[k].name = x.name := by have := congrArg Prod.fst hkk; exact this
      have hkx : D'[k].x = x.x := by have := congrArg Prod.snd hkk; exact this
      rw [hkn] at q0
      rw [hkx] at q1 hrk'
      generalize D'[k].A = a2 at q1 hrk'
      generalize D'[k].c = c2 at q1
      have Hrk := Lib.hid hrk
      have Hrk' := Lib.hid hrk'
      have hxl : x.x.length ≤ 1048576 := by simp only [Psn.key] at hsk; omega
      clear hcell hcell' hrk hrk' hsk hkk hkn hkx
      go_wp2
      go_still_tail 8, (by kernel_rfl)
      change wpList _ _ _ _ _ wr.drew
      have Hbl2 := Lib.hid Hbl.out.drew
      generalize wr.drew = w2 at *
      have hgs2 := Hbl2.out.size
      go_wp2_with (go_at_call 25; refine (eqPerson_t x a2 c2 _ ((Hrk.out.below Hbl2.out (Nat.le_refl _)).more hgs2) ((Hrk'.out.below Hbl2.out (Nat.le_refl _)).more hgs2) hxl).mono ?_; rintro e w' ⟨rfl, hb2⟩)
      go_roundw
      case rel => exact ⟨k + 1, by omega, by go_num, Hbl2.out.trans (hb2.mono hgs2)⟩
      case measure => simp [intOf]; omega
    · go_wp2
      go_ret
      exact ⟨rfl, Hbl.out⟩
theorem OwnL.setName {w : World} {b c g : Nat} {E : List Psn} (h : OwnL w b c (some ⟨g, 0, none⟩) 2 Psn.enc E) (k : Nat) (hk : k < E.length) (s : ByteArray) :
    OwnL (w.setCell ⟨g, k * 2, none⟩ (.string s)) b c (some ⟨g, 0, none⟩) 2 Psn.enc (E.set k ⟨s, E[k].x, E[k].A, E[k].c⟩) := by
  rcases h with h | ⟨g', f, hA, h1, h2, h3, h4⟩
  · subst h; simp at hk
  · simp only [Option.some.injEq, Addr.mk.injEq, and_true] at hA
    subst hA
    refine .inr ⟨g, _, rfl, h1, h2, by rw [List.length_set]; exact h3.set (i := k * 2) (by omega) _, fun i hi j u hu => ?_⟩
    have hj : j < 2 := by have := (List.getElem?_eq_some_iff.1 hu).1; simpa [Psn.enc] using this
    by_cases e : i = k
    · subst e
      rw [List.getElem_set_self] at hu
      rcases (show j = 0 ∨ j = 1 by omega) with rfl | rfl
      · rw [Nat.add_zero, upd_same]; simpa [Psn.enc] using hu
      · rw [upd_other _ _ _ _ (by omega)]; exact h4 i hk 1 u (by simpa [Psn.enc] using hu)
    · rw [List.getElem_set_ne (by omega)] at hu
      rw [upd_other _ _ _ _ (by omega)]
      exact h4 i (by simpa using hi) j u hu
theorem OwnL.psn {w : World} {b c g : Nat} {E : List Psn} (h : OwnL w b c (some ⟨g, 0, none⟩) 2 Psn.enc E) (k : Nat) (hk : k < E.length) :
    w.cell? ⟨g, k * 2, none⟩ = some (.string E[k].name) ∧ w.cell? ⟨g, k * 2 + 1, none⟩ = some (.slice E[k].A E[k].x.length E[k].c) ∧ w.frozen? ⟨g, k * 2, none⟩ = false := by
  rcases h with h | ⟨g', f, hA, h1, h2, h3, h4⟩
  · subst h; simp at hk
  · simp only [Option.some.injEq, Addr.mk.injEq, and_true] at hA
    subst hA
    have c0 := h3.cell (i := k * 2) (by omega)
    have c1 := h3.cell (i := k * 2 + 1) (by omega)
    have e0 := h4 k hk 0 _ rfl
    have e1 := h4 k hk 1 _ rfl
    rw [Nat.add_zero] at e0
    rw [e0] at c0
    rw [e1] at c1
    exact ⟨c0, c1, h3.free (i := k * 2) (by omega)⟩
set_option maxHeartbeats 3200000 in
theorem markPersonS_any (l : List Pk) (b d : Nat) (A : Option Addr) (c q : Nat) (w : World) (h : OwnP w b d A l) (hl : l.length ≤ 1048576 ∧ totP l ≤ 1048576) (hq0 : 0 < q) (hq : q ≤ 90000000000) :
    Calls Tryd.prog 10 #[.slice A l.length c, .int .i64 q] w fun e w' => e = .returned (.int .i64 ((q + cntP l : Nat) : Int)) ∧ True ∧ Chg b d w w' := by
  obtain ⟨D, hD, hn⟩ := h
  obtain ⟨hl1, hl2⟩ := hl
  rcases hn with hn | ⟨g, hh, hg1, hg2, ho, hin⟩
  · subst hn
    subst hD
    go_enter Tryd.func10, Tryd.ntmps10
    go_wp2
    go_loop [1, 5] (fun v i => v = .int .i64 q ∧ i = .int .i64 0) (fun _ _ => 0)
    case atStart => exact ⟨rfl, rfl⟩
    case round =>
      obtain ⟨rfl, rfl⟩ := hrel
      go_wp2
      go_ret
      exact ⟨by simp [cntP, totP, tot], Chg.refl _ _ _⟩
  · subst hD
    rw [List.length_map] at hl1 ⊢
    have hs : ∀ k, totP ((D.map Psn.key).take k) ≤ totP (D.map Psn.key) := fun k => by unfold totP; rw [List.map_take]; exact tot_take_le _ _
    have Hs := Lib.hid hs
    have Ho := Lib.hid ho
    have Hin := Lib.hid hin
    have Hl2 := Lib.hid hl2
    clear ho hin hs hl2
    go_enter Tryd.func10, Tryd.ntmps10
    go_wp2
    go_loopw [1, 5] (fun v i wr => ∃ (k : Nat) (E : List Psn), k ≤ D.length ∧ i = .int .i64 k ∧ v = .int .i64 ((q + k + totP ((D.map Psn.key).take k) : Nat) : Int) ∧ Hid (E.length = D.length ∧ ∀ (i : Nat) (h1 : i < E.length) (h2 : i < D.length), E[i].x.length = D[i].x.length) ∧ OwnL wr g (g + 1) A 2 Psn.enc E ∧ (∀ (i : Nat) (hi : i < E.length), OwnL wr (hh i) (hh i + 1) E[i].A 1 encInt E[i].x) ∧ Chg b d w wr) (fun _ i _ => D.length - (intOf i).toNat)
    case atStart => exact ⟨0, D, by omega, by rfl, by simp [totP, tot], Lib.hid ⟨rfl, fun i _ _ => rfl⟩, Ho.out, fun i hi => (Hin.out i hi).2.2.2.1, Chg.refl _ _ _⟩
    case round =>
      obtain ⟨k, E, hk, rfl, rfl, HE, hok, hik, hch⟩ := hrel
      have Hok := Lib.hid hok
      have Hik := Lib.hid hik
      have Hch := Lib.hid hch
      have hb1 := Hs.out k
      have hb2 := Hl2.out
      clear hok hik hch
      by_cases hlt : k < D.length
      · have hltE : k < E.length := by rw [HE.out.1]; exact hlt
        obtain ⟨g', f', hA, hgg1, hgg2, _⟩ := Hok.out.cells (by omega)
        obtain rfl : g' = g := by omega
        subst hA
        have hxl := HE.out.2 k hltE hlt
        have hts := totP_take_succ D k hlt
        have hb3 := Hs.out (k + 1)
        have hel : E[k].x.length ≤ 1048576 := by omega
        obtain ⟨r0, r1, f0⟩ := Hok.out.psn k hltE
        have hone := Hik.out k hltE
        have Hts := Lib.hid hts
        have Hxl := Lib.hid hxl
        obtain ⟨T, hT⟩ : ∃ T : Nat, Hid (T = q + k + totP ((D.map Psn.key).take k)) := ⟨_, Lib.hid rfl⟩
        rw [← hT.out]
        have hT1 : 0 < T ∧ T ≤ 99000000000 := by have := hT.out; omega
        obtain ⟨hT1, hT2⟩ := hT1
        obtain ⟨x, hx⟩ : ∃ x, Hid (E[k] = x) := ⟨_, Lib.hid rfl⟩
        rw [hx.out] at r0 r1 hone hel
        have Hone := Lib.hid hone
        clear hone hts hxl hb1 hb2 hb3
        go_wp2_with (first | (go_at_call 26; refine (markText_any T _ hT1 (by omega)).mono ?_; rintro e w2 ⟨rfl, hbm⟩; have q0 := (hbm.cell (p := ⟨g', k * 2, none⟩) (by have := Hok.out.psn k hltE; exact World.block_lt_of_cell? _ _ this.1)).trans r0; have qf := (hbm.frozen (p := ⟨g', k * 2, none⟩) (by have := Hok.out.psn k hltE; exact World.block_lt_of_cell? _ _ this.1)).trans f0; have hs3 := (Hok.out.later hbm).setName k hltE (markT T); have q1 := (hs3.psn k (by simpa using hltE)).2.1; rw [List.getElem_set_self, hx.out] at q1; have Hs3 := Lib.hid hs3; clear hs3) | (go_at_call 11; refine (markIntS_any x.x (hh k) (hh k + 1) x.A x.c (T + 1) _ ((Hone.out.later hbm).chg ((Chg.refl g' (g' + 1) _).setCell (p := ⟨g', k * 2, none⟩) (Nat.le_refl _) (Nat.lt_succ_self _) _) (by have := (Hin.out k hlt).2.2.1; omega)) hel (by omega) (by omega)).mono ?_; rintro e w4 ⟨rfl, ho4, hc4⟩))
        have Ho4 := Lib.hid ho4
        have Hc4 := Lib.hid hc4
        clear ho4 hc4
        go_roundw
        case rel =>
          have hkk := Hin.out k hlt
          have hxk : D[k].x.length = x.x.length := by rw [← Hxl.out, hx.out]
          have hset : Chg g' (g' + 1) w2 (w2.setCell ⟨g', k * 2, none⟩ (.string (markT T))) := (Chg.refl _ _ _).setCell (p := ⟨g', k * 2, none⟩) (Nat.le_refl _) (Nat.lt_succ_self _) _
          refine ⟨k + 1, E.set k ⟨markT T, markIntL x.x.length (T + 1), x.A, x.c⟩, by omega, by go_num, ?_, Lib.hid ⟨by simpa using HE.out.1, fun i h1 h2 => ?_⟩, ?_, fun i hi => ?_, ?_⟩
          · congr 1; have := Hts.out; have := hT.out; rw [hxk] at *; push_cast; omega
          · by_cases e : i = k
            · subst e; rw [List.getElem_set_self]; simp only [markIntL_len]; exact hxk.symm
            · rw [List.getElem_set_ne (by omega)]; exact HE.out.2 i (by simpa using h1) h2
          · refine (Hs3.out.chg Hc4.out (by omega)).congr (by simp) (fun i h1 h2 => ?_)
            by_cases e : i = k
            · subst e; rw [List.getElem_set_self, List.getElem_set_self, hx.out]; simp [Psn.enc, markIntL_len]
            · rw [List.getElem_set_ne (by omega), List.getElem_set_ne (by omega)]
          · by_cases e : i = k
            · subst e; simp only [List.getElem_set_self]; exact Ho4.out
            · have hiE : i < E.length := by simpa using hi
              have hiD : i < D.length := by rw [← HE.out.1]; exact hiE
              rw [List.getElem_set_ne (by omega)]
              have hii := Hin.out i hiD
              have hne : hh i ≠ hh k := by
                rcases Nat.lt_or_ge i k with h' | h'
                · exact hkk.2.2.2.2 i h'
                · exact fun he => hii.2.2.2.2 k (by omega) he.symm
              exact (((Hik.out i hiE).later hbm).chg hset (by omega)).chg Hc4.out (by omega)
          · exact ((Hch.out.below hbm).trans (hset.mono hg1 hg2)).trans (Hc4.out.mono hkk.1 hkk.2.1)
        case measure => simp [intOf]; omega
      · obtain rfl : k = D.length := by omega
        have hall : (D.map Psn.key).take D.length = D.map Psn.key := List.take_of_length_le (by simp)
        rw [hall]
        clear hb1
        go_wp2
        go_ret
        have hcq : q + cntP (D.map Psn.key) = q + D.length + totP (D.map Psn.key) := by unfold cntP; rw [List.length_map]; omega
        rw [hcq]
        refine ⟨?_, ?_⟩
        · rfl
        · exact ⟨trivial, Hch.out⟩
theorem people_open {w : World} {A : Option Addr} {D : List Psn} (x : RdL w w.heap.size A 2 Psn.enc D) (z : ∀ d ∈ D, Person_small 9223372036854775807 d.key ∧ RdL w w.heap.size d.A 1 encInt d.x) :
    RdP w w.heap.size A (D.map Psn.key) ∧ ∀ k ∈ D.map Psn.key, Person_small 9223372036854775807 k :=
  ⟨⟨D, rfl, x, fun d hd => (z d hd).2⟩, fun k hk => by obtain ⟨d, hd, rfl⟩ := List.mem_map.1 hk; exact (z d hd).1⟩
end Go.Proofs.YtkblldbilofdgaaDoor
