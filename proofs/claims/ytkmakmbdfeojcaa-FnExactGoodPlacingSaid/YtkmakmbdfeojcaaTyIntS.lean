/-
  Contracts of the helper functions that the laws use for lists of lists of integers.
-/
import Derived.Test.YtkmakmbdfeojcaaNest
import Derived.Test.YtkmakmbdfeojcaaTyInt
namespace Go.Proofs.Ytkmakmbdfeojcaa
open Go.RowKit Go.ChangeShapes Go.WideShapes
set_option linter.unusedVariables false
set_option linter.unusedSimpArgs false
set_option maxRecDepth 100000

/-- A list of integers in memory: what it holds, its address, its room. -/
structure Sl where
  x : List Int
  A : Option Addr
  c : Nat
def Sl.enc (s : Sl) : List Value := [.slice s.A s.x.length s.c]
theorem Sl_enc_len (s : Sl) : (Sl.enc s).length = 1 := rfl
theorem IntS_info : (Try.prog.info? 39).map (fun i => (i.zero, i.size, i.bytes)) = some (some (.slice none 0 0), 1, 24) := by kernel_rfl
/-- How many numbers there are. -/
def tot (l : List (List Int)) : Nat := (l.map List.length).sum
theorem tot_cons (x : List Int) (l : List (List Int)) : tot (x :: l) = x.length + tot l := by simp [tot]
theorem tot_append (l m : List (List Int)) : tot (l ++ m) = tot l + tot m := by simp [tot]
theorem tot_le {l : List (List Int)} {x : List Int} (h : x ∈ l) : x.length ≤ tot l := by
  induction l with
  | nil => simp at h
  | cons y l ih =>
    rw [tot_cons]
    rcases List.mem_cons.1 h with rfl | h
    · omega
    · have := ih h; omega
theorem tot_take_succ (l : List (List Int)) (k : Nat) (hk : k < l.length) : tot (l.take (k + 1)) = tot (l.take k) + l[k].length := by
  rw [List.take_succ_eq_append_getElem hk, tot_append]; simp [tot]
theorem tot_take_le (l : List (List Int)) (k : Nat) : tot (l.take k) ≤ tot l := by
  have := tot_append (l.take k) (l.drop k)
  rw [List.take_append_drop] at this; omega

abbrev RdNS (w : World) (b : Nat) (A : Option Addr) (D : List Sl) : Prop := RdN w b A 1 Sl.enc Sl.A Sl.x 1 encInt D
abbrev OwnNS (w : World) (b c : Nat) (A : Option Addr) (D : List Sl) : Prop := OwnN w b c A 1 Sl.enc Sl.A Sl.x 1 encInt D
def RdS (w : World) (b : Nat) (A : Option Addr) (l : List (List Int)) : Prop := ∃ D : List Sl, D.map Sl.x = l ∧ RdNS w b A D
def OwnS (w : World) (b c : Nat) (A : Option Addr) (l : List (List Int)) : Prop := ∃ D : List Sl, D.map Sl.x = l ∧ OwnNS w b c A D
section
variable {w w' : World} {b b' c c' : Nat} {A : Option Addr} {l : List (List Int)}
theorem OwnS.nil : OwnS w b c A [] := ⟨[], rfl, OwnN.nil⟩
theorem OwnS.rd (h : OwnS w b c A l) (_ : True) : RdS w w.heap.size A l := by obtain ⟨D, hD, h⟩ := h; exact ⟨D, hD, h.rd Sl_enc_len encInt_len⟩
theorem OwnS.later (h : OwnS w b c A l) (hb : Below w.heap.size w w') : OwnS w' b c A l := by obtain ⟨D, hD, h⟩ := h; exact ⟨D, hD, h.later hb⟩
theorem OwnS.chg (h : OwnS w b c A l) (k : Chg b' c' w w') (hr : c ≤ b' ∨ c' ≤ b) : OwnS w' b c A l := by obtain ⟨D, hD, h⟩ := h; exact ⟨D, hD, h.chg k hr⟩
theorem OwnS.mono (h : OwnS w b c A l) (hb : b' ≤ b) (hc : c ≤ c') : OwnS w b' c' A l := by obtain ⟨D, hD, h⟩ := h; exact ⟨D, hD, h.mono hb hc⟩
end

set_option maxHeartbeats 1600000 in
theorem eqIntSS_t (l : List (List Int)) (A A' : Option Addr) (c c' : Nat) (w : World) (h : RdS w w.heap.size A l) (h' : RdS w w.heap.size A' l) (hl : l.length ≤ 1048576 ∧ tot l ≤ 1048576) :
    Calls Try.prog 50 #[.slice A l.length c, .slice A' l.length c'] w fun e w' => e = .returned (.bool true) ∧ Below w.heap.size w w' := by
  obtain ⟨D, hD, hr, hi⟩ := h
  obtain ⟨D', hD', hr', hi'⟩ := h'
  have hn : l.length = D.length := by rw [← hD]; simp
  have hn' : D'.length = D.length := by rw [← hn, ← hD']; simp
  have hl2 := hl.2
  have hx : ∀ (k : Nat) (h1 : k < D.length) (h2 : k < D'.length), D'[k].x = D[k].x := fun k h1 h2 => by
    have e1 : (D.map Sl.x)[k]? = (D'.map Sl.x)[k]? := by rw [hD, hD']
    simpa [h1, h2] using e1.symm
  have hxl : ∀ (k : Nat) (h1 : k < D.length), D[k].x.length ≤ 1048576 := fun k h1 => by
    have := tot_le (l := l) (x := D[k].x) (by rw [← hD]; exact List.mem_map.2 ⟨_, List.getElem_mem h1, rfl⟩)
    omega
  have hl1 := hl.1
  rw [hn] at hl1 ⊢
  have Hx := Lib.hid hx
  have Hxl := Lib.hid hxl
  have Hn := Lib.hid hn'
  have Hr := Lib.hid hr
  have Hr' := Lib.hid hr'
  have Hi := Lib.hid hi
  have Hi' := Lib.hid hi'
  clear hl hx hxl hn hn' hD hD' hl2 hr hr' hi hi'
  go_enter Try.func50, Try.ntmps50
  go_wp2
  go_loopw [5] (fun i wr => ∃ k : Nat, k ≤ D.length ∧ i = .int .i64 k ∧ Below w.heap.size w wr) (fun i _ => D.length - (intOf i).toNat)
  case atStart => exact ⟨0, by omega, by rfl, Below.refl _ _⟩
  case round =>
    obtain ⟨k, hk, rfl, hbl⟩ := hrel
    have Hbl := Lib.hid hbl
    clear hbl
    by_cases hlt : k < D.length
    · have hlt' : k < D'.length := by rw [Hn.out]; exact hlt
      obtain ⟨g, off, hA, hg, hcell⟩ := Hr.out.at hlt
      obtain ⟨g', off', hA', hg', hcell'⟩ := Hr'.out.at hlt'
      subst hA hA'
      have r0 : wr.cell? ⟨g, off + k, none⟩ = some (.slice D[k].A D[k].x.length D[k].c) := (Hbl.out.cell (p := ⟨g, off + k, none⟩) hg).trans (by have := hcell 0 _ rfl; rw [Nat.mul_one] at this; exact this)
      have q0 : wr.cell? ⟨g', off' + k, none⟩ = some (.slice D'[k].A D'[k].x.length D'[k].c) := (Hbl.out.cell (p := ⟨g', off' + k, none⟩) hg').trans (by have := hcell' 0 _ rfl; rw [Nat.mul_one] at this; exact this)
      have hrk := Hi.out _ (List.getElem_mem hlt)
      have hrk' := Hi'.out _ (List.getElem_mem hlt')
      have hxk := Hxl.out k hlt
      rw [Hx.out k hlt hlt'] at q0 hrk'
      clear hcell hcell'
      have Hrk := Lib.hid hrk
      have Hrk' := Lib.hid hrk'
      clear hrk hrk'
      generalize D[k].A = a1 at r0 Hrk
      generalize D'[k].A = a2 at q0 Hrk'
      generalize D[k].c = c1 at r0
      generalize D'[k].c = c2 at q0
      generalize D[k].x = x at r0 q0 Hrk Hrk' hxk
      go_wp2
      go_still_tail 8, (by kernel_rfl)
      change wpList _ _ _ _ _ wr.drew
      have Hbl2 := Lib.hid Hbl.out.drew
      generalize wr.drew = w2 at *
      have hgs2 := Hbl2.out.size
      go_wp2_with (go_at_call 28; refine (eqIntS_t x a1 a2 c1 c2 _ ((Hrk.out.below Hbl2.out (Nat.le_refl _)).more hgs2) ((Hrk'.out.below Hbl2.out (Nat.le_refl _)).more hgs2) (by omega)).mono ?_; rintro e w' ⟨rfl, hb2⟩)
      go_roundw
      case rel => exact ⟨k + 1, by omega, by go_num, Hbl2.out.trans (hb2.mono hgs2)⟩
      case measure => simp [intOf]; omega
    · go_wp2
      go_ret
      exact ⟨rfl, Hbl.out⟩
/-- What the marks make of lists of such lengths. -/
def markIntSL : List Nat → Nat → List (List Int)
  | [], _ => []
  | n :: ns, q => markIntL n q :: markIntSL ns (q + n)
theorem markIntSL_len : ∀ (ns : List Nat) (q : Nat), (markIntSL ns q).length = ns.length
  | [], _ => rfl
  | n :: ns, q => by simp [markIntSL, markIntSL_len ns]
theorem markIntSL_at : ∀ (ns : List Nat) (q k : Nat) (hk : k < (markIntSL ns q).length) (hk' : k < ns.length), (markIntSL ns q)[k] = markIntL ns[k] (q + (ns.take k).sum)
  | n :: ns, q, 0, _, _ => by simp [markIntSL]
  | n :: ns, q, k + 1, hk, hk' => by
    simp only [markIntSL, List.getElem_cons_succ, List.take_succ_cons, List.sum_cons]
    rw [markIntSL_at ns (q + n) k _ (by simpa using hk')]
    congr 1; omega
set_option maxHeartbeats 1600000 in
theorem markIntSS_any (l : List (List Int)) (b d : Nat) (A : Option Addr) (c q : Nat) (w : World) (h : OwnS w b d A l) (hl : l.length ≤ 1048576 ∧ tot l ≤ 1048576) (hq0 : 0 < q) (hq : q ≤ 90000000000) :
    Calls Try.prog 51 #[.slice A l.length c, .int .i64 q] w fun e w' => e = .returned (.int .i64 ((q + tot l : Nat) : Int)) ∧ OwnS w' b d A (markIntSL (l.map List.length) q) ∧ Chg b d w w' := by
  obtain ⟨D, hD, hn⟩ := h
  obtain ⟨hl1, hl2⟩ := hl
  rcases hn with hn | ⟨g, hh, hg1, hg2, ho, hin⟩
  · subst hn
    subst hD
    go_enter Try.func51, Try.ntmps51
    go_wp2
    go_loop [1, 5] (fun v i => v = .int .i64 q ∧ i = .int .i64 0) (fun _ _ => 0)
    case atStart => exact ⟨rfl, rfl⟩
    case round =>
      obtain ⟨rfl, rfl⟩ := hrel
      go_wp2
      go_ret
      exact ⟨by simp [tot], ⟨[], by rfl, OwnN.nil⟩, Chg.refl _ _ _⟩
  · have hlen : l.length = D.length := by rw [← hD]; simp
    have hx : ∀ (k : Nat) (h1 : k < D.length) (h2 : k < l.length), l[k] = D[k].x := fun k h1 h2 => by
      have e1 : (D.map Sl.x)[k]? = l[k]? := by rw [hD]
      simpa [h1, h2] using e1.symm
    have Ho := Lib.hid ho
    have Hin := Lib.hid hin
    have Hx := Lib.hid hx
    have HD := Lib.hid hD
    have Hlen := Lib.hid hlen
    clear ho hin hx hD hlen
    have hl3 : D.length ≤ 1048576 := by have := Hlen.out; omega
    have hln : l.length = D.length := Hlen.out
    have hlnB : Hid (∀ k, tot (l.take k) ≤ tot l) := Lib.hid (tot_take_le l)
    rw [hln]
    clear hln
    go_enter Try.func51, Try.ntmps51
    go_wp2
    go_loopw [1, 5] (fun v i wr => ∃ k : Nat, k ≤ D.length ∧ i = .int .i64 k ∧ v = .int .i64 ((q + tot (l.take k) : Nat) : Int) ∧ OwnL wr g (g + 1) A 1 Sl.enc D ∧ (∀ (i : Nat) (hi : i < D.length), OwnL wr (hh i) (hh i + 1) D[i].A 1 encInt (if i < k then markIntL D[i].x.length (q + tot (l.take i)) else D[i].x)) ∧ Chg b d w wr) (fun _ i _ => D.length - (intOf i).toNat)
    case atStart => exact ⟨0, by omega, by rfl, by simp [tot], Ho.out, fun i hi => by rw [if_neg (by omega)]; exact (Hin.out i hi).2.2.2.1, Chg.refl _ _ _⟩
    case round =>
      obtain ⟨k, hk, rfl, rfl, hok, hik, hch⟩ := hrel
      have Hok := Lib.hid hok
      have Hik := Lib.hid hik
      have Hch := Lib.hid hch
      have hb1 := hlnB.out k
      clear hok hik hch
      by_cases hlt : k < D.length
      · have hlt' : k < l.length := by rw [Hlen.out]; exact hlt
        obtain ⟨g0, off, hA, hg0, hcell⟩ := (Hok.out.rd Sl_enc_len).at hlt
        subst hA
        have r0 : wr.cell? ⟨g0, off + k, none⟩ = some (.slice D[k].A D[k].x.length D[k].c) := by have := hcell 0 _ rfl; rw [Nat.mul_one] at this; exact this
        have hone := Hik.out k hlt
        rw [if_neg (Nat.lt_irrefl k)] at hone
        have ht1 := tot_take_succ l k hlt'
        rw [Hx.out k hlt hlt'] at ht1
        have hb2 := hlnB.out (k + 1)
        obtain ⟨d0, hd0⟩ : ∃ d0, Hid (D[k] = d0) := ⟨_, Lib.hid rfl⟩
        rw [hd0.out] at r0 hone ht1
        have Hone := Lib.hid hone
        have Ht1 := Lib.hid ht1
        have hxl : d0.x.length ≤ 1048576 := by omega
        clear hone ht1 hcell
        obtain ⟨T, hT⟩ : ∃ T : Nat, Hid (T = q + tot (l.take k)) := ⟨_, Lib.hid rfl⟩
        rw [← hT.out]
        have hT1 : 0 < T ∧ T ≤ 100000000000 := by have := hT.out; omega
        obtain ⟨hT1, hT2⟩ := hT1
        have hbT : tot (l.take k) ≤ tot l := hb1
        clear hb1 hb2 hbT
        go_wp2_with (go_at_call 29; refine (markIntS_any d0.x (hh k) (hh k + 1) d0.A d0.c T _ Hone.out hxl hT1 hT2).mono ?_; rintro e w' ⟨rfl, ho2, hc2⟩)
        have Ho2 := Lib.hid ho2
        have Hc2 := Lib.hid hc2
        clear ho2 hc2
        go_roundw
        case rel =>
          have hkk := Hin.out k hlt
          refine ⟨k + 1, by omega, by go_num, ?_, Hok.out.chg Hc2.out (by omega), fun i hi => ?_, Hch.out.trans (Hc2.out.mono hkk.1 hkk.2.1)⟩
          · congr 1; have := Ht1.out; have := hT.out; simp; omega
          · by_cases e : i = k
            · subst e
              rw [if_pos (by omega), hd0.out, ← hT.out]; exact Ho2.out
            · have hne : hh i ≠ hh k := by
                rcases Nat.lt_or_ge i k with h' | h'
                · exact hkk.2.2.2.2 i h'
                · exact fun he => (Hin.out i hi).2.2.2.2 k (by omega) he.symm
              have := (Hik.out i hi).chg Hc2.out (by omega)
              by_cases e2 : i < k
              · rw [if_pos e2] at this; rw [if_pos (by omega)]; exact this
              · rw [if_neg e2] at this; rw [if_neg (by omega)]; exact this
        case measure => simp [intOf]; omega
      · obtain rfl : k = D.length := by omega
        have hll : l.take D.length = l := List.take_of_length_le (by have := Hlen.out; omega)
        rw [hll]
        clear hb1
        go_wp2
        go_ret
        obtain ⟨D', hD', hq'⟩ := choose_list (fun i (s : Sl) => ∀ hi : i < D.length, s = ⟨markIntL D[i].x.length (q + tot (l.take i)), D[i].A, D[i].c⟩) D.length (fun i hi => ⟨⟨markIntL D[i].x.length (q + tot (l.take i)), D[i].A, D[i].c⟩, fun _ => rfl⟩)
        have he : ∀ (i : Nat) (h1 : i < D'.length) (h2 : i < D.length), D'[i] = ⟨markIntL D[i].x.length (q + tot (l.take i)), D[i].A, D[i].c⟩ := fun i h1 h2 => hq' i h1 h2
        refine ⟨rfl, ⟨D', ?_, .inr ⟨g, hh, hg1, hg2, Hok.out.congr hD'.symm (fun i h1 h2 => by rw [he i h2 h1]; simp [Sl.enc, markIntL_len]), fun i hi => ?_⟩⟩, Hch.out⟩
        · apply List.ext_getElem
          · rw [markIntSL_len]; simp [hD', Hlen.out]
          · intro i h1 h2
            have h3 : i < D.length := by simpa [hD'] using h1
            have h4 : i < l.length := by rw [Hlen.out]; exact h3
            rw [markIntSL_at _ _ i h2 (by simpa using h4)]
            simp only [List.getElem_map]
            rw [he i (by omega) h3, ← List.map_take, Hx.out i h3 h4]
            rfl
        · have h3 : i < D.length := by omega
          have h5 := Hin.out i h3
          have h6 := Hik.out i h3
          rw [if_pos h3] at h6
          rw [he i hi h3]
          exact ⟨h5.1, h5.2.1, h5.2.2.1, h6, h5.2.2.2.2⟩
set_option maxHeartbeats 1600000 in
theorem heldIntSS_ns (ns : List Nat) (A : Option Addr) (c q : Nat) (w : World) (h : RdS w w.heap.size A (markIntSL ns q)) (hl : ns.length ≤ 1048576 ∧ ns.sum ≤ 1048576) (hq0 : 0 < q) (hq : q ≤ 90000000000) :
    Calls Try.prog 52 #[.slice A ns.length c, .int .i64 q] w fun e w' => e = .returned (.int .i64 ((q + ns.sum : Nat) : Int)) ∧ Below w.heap.size w w' := by
  obtain ⟨D, hD, hr, hi⟩ := h
  obtain ⟨hl1, hl2⟩ := hl
  have hlen : D.length = ns.length := by have : (D.map Sl.x).length = (markIntSL ns q).length := by rw [hD]
                                         rw [markIntSL_len] at this; simpa using this
  have hx : ∀ (k : Nat) (h1 : k < D.length) (h2 : k < ns.length), D[k].x = markIntL ns[k] (q + (ns.take k).sum) := fun k h1 h2 => by
    have e1 : (D.map Sl.x)[k]? = (markIntSL ns q)[k]? := by rw [hD]
    have h3 : k < (markIntSL ns q).length := by rw [markIntSL_len]; exact h2
    have h4 : (markIntSL ns q)[k]? = some (markIntSL ns q)[k] := List.getElem?_eq_getElem h3
    rw [h4, markIntSL_at ns q k h3 h2] at e1
    simpa [h1] using e1
  have hs : ∀ k, (ns.take k).sum ≤ ns.sum := fun k => by have := List.sum_append (l₁ := ns.take k) (l₂ := ns.drop k); rw [List.take_append_drop] at this; omega
  have hs2 : ∀ k (hk : k < ns.length), (ns.take (k + 1)).sum = (ns.take k).sum + ns[k] := fun k hk => by rw [List.take_succ_eq_append_getElem hk, List.sum_append]; simp
  have Hr := Lib.hid hr
  have Hi := Lib.hid hi
  have Hx := Lib.hid hx
  have Hlen := Lib.hid hlen
  have Hs := Lib.hid hs
  have Hs2 := Lib.hid hs2
  clear hr hi hx hlen hD hs hs2
  go_enter Try.func52, Try.ntmps52
  go_wp2
  go_loopw [1, 5] (fun v i wr => ∃ k : Nat, k ≤ ns.length ∧ i = .int .i64 k ∧ v = .int .i64 ((q + (ns.take k).sum : Nat) : Int) ∧ Below w.heap.size w wr) (fun _ i _ => ns.length - (intOf i).toNat)
  case atStart => exact ⟨0, by omega, by rfl, by simp, Below.refl _ _⟩
  case round =>
    obtain ⟨k, hk, rfl, rfl, hbl⟩ := hrel
    have Hbl := Lib.hid hbl
    have hgs := hbl.size
    clear hbl
    by_cases hlt : k < ns.length
    · have hlt' : k < D.length := by rw [Hlen.out]; exact hlt
      obtain ⟨g0, off, hA, hg0, hcell⟩ := Hr.out.at hlt'
      subst hA
      have r0 : wr.cell? ⟨g0, off + k, none⟩ = some (.slice D[k].A D[k].x.length D[k].c) := (Hbl.out.cell (p := ⟨g0, off + k, none⟩) hg0).trans (by have := hcell 0 _ rfl; rw [Nat.mul_one] at this; exact this)
      have hrk := Hi.out _ (List.getElem_mem hlt')
      rw [Hx.out k hlt' hlt] at r0 hrk
      rw [markIntL_len] at r0
      have h1 := Hs.out (k + 1)
      have h2 := Hs2.out k hlt
      have Hrk := Lib.hid hrk
      have H2 := Lib.hid h2
      have hm : ns[k] ≤ 1048576 := by omega
      have hT1 : 0 < q + (ns.take k).sum ∧ q + (ns.take k).sum ≤ 100000000000 := by omega
      clear hrk h1 h2 hcell
      obtain ⟨T, hT⟩ : ∃ T : Nat, Hid (T = q + (ns.take k).sum) := ⟨_, Lib.hid rfl⟩
      rw [← hT.out] at hT1 Hrk ⊢
      obtain ⟨hT1, hT2⟩ := hT1
      obtain ⟨m, hm0⟩ : ∃ m, Hid (ns[k] = m) := ⟨_, Lib.hid rfl⟩
      rw [hm0.out] at r0 hm Hrk
      generalize D[k].A = a1 at r0 Hrk
      generalize D[k].c = c1 at r0
      go_wp2_with (go_at_call 30; refine (heldIntS_any m a1 c1 T _ ((Hrk.out.below Hbl.out (Nat.le_refl _)).more hgs) hm hT1 hT2).mono ?_; rintro e w' ⟨rfl, hb2⟩)
      go_roundw
      case rel =>
        refine ⟨k + 1, by omega, by go_num, ?_, Hbl.out.trans (hb2.mono hgs)⟩
        congr 1; have := H2.out; have := hT.out; have := hm0.out; simp; omega
      case measure => simp [intOf]; omega
    · obtain rfl : k = ns.length := by omega
      rw [List.take_of_length_le (Nat.le_refl _)]
      go_wp2
      go_ret
      exact ⟨rfl, Hbl.out⟩
theorem heldIntSS_any (l : List (List Int)) (A : Option Addr) (c q : Nat) (w : World) (h : RdS w w.heap.size A (markIntSL (List.map List.length l) q)) (hl : l.length ≤ 1048576 ∧ tot l ≤ 1048576) (hq0 : 0 < q) (hq : q ≤ 90000000000) :
    Calls Try.prog 52 #[.slice A l.length c, .int .i64 q] w fun e w' => e = .returned (.int .i64 ((q + tot l : Nat) : Int)) ∧ Below w.heap.size w w' := by
  have := heldIntSS_ns (List.map List.length l) A c q w h ⟨by simpa using hl.1, hl.2⟩ hq0 hq
  rw [List.length_map] at this
  exact this
end Go.Proofs.Ytkmakmbdfeojcaa
