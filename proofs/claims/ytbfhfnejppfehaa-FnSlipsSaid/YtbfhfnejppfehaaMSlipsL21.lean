import Derived.Test.YtbfhfnejppfehaaMSlipsL20
import Derived.Test.YtbfhfnejppfehaaMSlipsL08
import Derived.Test.YtbfhfnejppfehaaMSlipsL07
import Derived.Test.YtbfhfnejppfehaaMSlipsL05
import Derived.Test.YtbfhfnejppfehaaMSlipsL12
import Derived.Deep.CutRange
/-
  The rows of a touch (the reference's side), exactly.
-/
namespace Go.Proofs.Ytbfhfnejppfehaa
open Go.RowKit
set_option linter.unusedVariables false
set_option linter.unusedSimpArgs false
set_option maxRecDepth 100000

/-- The rows of the first k leads of a touch. -/
noncomputable def rowsTo (n : Nat) (x : List ByteArray) (b s t : ByteArray) : Nat → List ByteArray
  | 0 => []
  | k + 1 => rowsTo n x b s t k ++ walkL (chF n) (headS n x b s t k) x x.length
theorem rowsTo_len (n : Nat) (x : List ByteArray) (b s t : ByteArray) : ∀ k, (rowsTo n x b s t k).length = k * x.length
  | 0 => by simp [rowsTo]
  | k + 1 => by simp only [rowsTo]; rw [List.length_append, rowsTo_len n x b s t k, walkL_len, Nat.add_mul, Nat.one_mul]
theorem rowsTo_row {n : Nat} (h3 : 3 ≤ n) (h8 : n ≤ 8) (x : List ByteArray) (b s t : ByteArray) : ∀ k, ∀ r ∈ rowsTo n x b s t k, rowN n r
  | 0 => by simp [rowsTo]
  | k + 1 => by
    intro r hr
    simp only [rowsTo, List.mem_append] at hr
    rcases hr with hr | hr
    · exact rowsTo_row h3 h8 x b s t k r hr
    · obtain ⟨i, hi, rfl⟩ := List.getElem_of_mem hr
      rw [walkL_at]
      exact after_rowN (fun r hr c _ => chF_row h3 h8 hr c) (headS_row h3 h8 x b s t k) i
/-- The rows of a touch. -/
noncomputable def touchL (n : Nat) (x : List ByteArray) (b s t : ByteArray) : List ByteArray := rowsTo n x b s t t.size





set_option maxHeartbeats 3200000 in
theorem l9Rows_any (nm : ByteArray) (n : Nat) (x : List ByteArray) (A : Option Addr) (c : Nat) (b s t : ByteArray) (w : World) (h : RdL w w.heap.size A 1 encString x) (h3 : 3 ≤ n) (h8 : n ≤ 8) (hl : x.length ≤ 1000) (h0 : 0 < x.length) (hcap : x.length ≤ c) (hx : ∀ c ∈ x, c.size ≤ 1048576) (hb : b.size ≤ 1048576) (hs : s.size ≤ 1048576) (ht : t.size ≤ 1000) (ht0 : 0 < t.size) :
    Calls Try.prog 127 #[.agg #[Value.string nm, .int .i64 (n : Int), .slice A x.length c], .agg #[Value.string b, .string s], .string t] w fun e w' => ∃ A2 c2, e = .returned (.slice A2 (touchL n x b s t).length c2) ∧ (touchL n x b s t).length ≤ c2 ∧ OwnL w' w.heap.size w'.heap.size A2 1 encString (touchL n x b s t) ∧ Below w.heap.size w w' := by
  have hxs := Lib.hid hx
  have hHe : Hid (∀ W, RdL W W.heap.size A 1 encString x → Calls Try.prog 154 #[.agg #[Value.string nm, .int .i64 (n : Int), .slice A x.length c], .agg #[Value.string b, .string s], .string t] W fun e w' => ∃ A2 c2, e = .returned (.slice A2 (t.size + 1) c2) ∧ t.size + 1 ≤ c2 ∧ OwnL w' W.heap.size w'.heap.size A2 1 encString (headsL n x b s t (t.size + 1)) ∧ Below W.heap.size W w') := Lib.hid (fun W hW => l9HeadsC_any nm n x A c b s t W hW h3 h8 (by omega) h0 hcap hx hb hs (by omega))
  have hHl : Hid ((headsL n x b s t (t.size + 1)).length = t.size + 1) := Lib.hid (by unfold headsL; rw [walkL_len])
  have hHa : Hid (∀ (k : Nat) (hk : k < (headsL n x b s t (t.size + 1)).length), (headsL n x b s t (t.size + 1))[k] = headS n x b s t k) := Lib.hid (fun k hk => walkL_at _ _ _ _ k hk)
  clear hx hb hs
  have hW : ∃ W : World, Hid ((w.alloc (.cells #[Value.string nm, .int .i64 (n : Int), .slice A x.length c] 144)).alloc (.cells #[Value.string b, .string s] 148) = W) ∧ Hid (Below w.heap.size w W) ∧ w.heap.size + 2 ≤ W.heap.size ∧ Hid (Cells W w.heap.size 3 (fun i => (#[Value.string nm, .int .i64 (n : Int), .slice A x.length c] : Array Value).getD i undef)) ∧ Hid (Cells W (w.heap.size + 1) 2 (fun i => (#[Value.string b, .string s] : Array Value).getD i undef)) := by
    have z1 : w.heap.size + 1 = (w.alloc (.cells #[Value.string nm, .int .i64 (n : Int), .slice A x.length c] 144)).heap.size := by simp
    refine ⟨_, Lib.hid rfl, Lib.hid (((Below.refl _ _).alloc (Nat.le_refl _) _).alloc (by simp) _), by simp, Lib.hid ?_, Lib.hid ?_⟩
    · exact (Cells.newD _ #[Value.string nm, .int .i64 (n : Int), .slice A x.length c] _).alloc _
    · rw [z1]; exact Cells.newD _ #[Value.string b, .string s] _
  obtain ⟨W, hWe, hWb, hWs, hM, hK⟩ := hW
  have H := Lib.hid (show RdL W W.heap.size A 1 encString x from (h.below hWb.out (Nat.le_refl _)).more hWb.out.size)
  clear h
  have u0 : W.cell? ⟨w.heap.size, 0, none⟩ = some (.string nm) := hM.out.cell (i := 0) (by omega)
  have u1 : W.cell? ⟨w.heap.size, 1, none⟩ = some (.int .i64 (n : Int)) := hM.out.cell (i := 1) (by omega)
  have u2 : W.cell? ⟨w.heap.size, 2, none⟩ = some (.slice A x.length c) := hM.out.cell (i := 2) (by omega)
  have u3 : W.cell? ⟨w.heap.size + 1, 0, none⟩ = some (.string b) := hK.out.cell (i := 0) (by omega)
  have u4 : W.cell? ⟨w.heap.size + 1, 1, none⟩ = some (.string s) := hK.out.cell (i := 1) (by omega)
  go_enter Try.func127, Try.ntmps127
  go_wp2_with fail
  rw [hWe.out]
  clear hWe
  go_wp2_with (go_at_call 154; refine (hHe.out W H.out).mono ?_; rintro e w1 ⟨A2, c2, rfl, hc2, ho2, hb2⟩; obtain ⟨g2, hA2, hg21, hg22, hg23⟩ := ho2.someStr (by rw [hHl.out]; omega); subst hA2; have HO2 := Lib.hid ho2; have HB2 := Lib.hid hb2; clear ho2 hb2)
  have hsz0 := hWb.out.size
  have hz2 := HB2.out.size
  obtain ⟨L, hL⟩ : ∃ L, Hid (headsL n x b s t (t.size + 1) = L) := ⟨_, Lib.hid rfl⟩
  rw [hL.out] at HO2 hHl hHa
  have HTl : Hid ((touchL n x b s t).length = t.size * x.length) := Lib.hid (rowsTo_len _ _ _ _ _ _)
  have hprod : t.size * x.length ≤ 1000000 := Nat.mul_le_mul ht hl
  go_loopw [7, 20] (fun v i wr => ∃ k : Nat, k ≤ t.size ∧ i = .int .i64 (k : Int) ∧ Grow wr w1.heap.size 9 1 encString v (rowsTo n x b s t k) ∧ Below w1.heap.size w1 wr) (fun _ i _ => t.size - (intOf i).toNat)
  case atStart => exact ⟨0, by omega, by rfl, Grow.nil, Below.refl _ _⟩
  case round =>
    obtain ⟨k, hk, rfl, hg, hbl⟩ := hrel
    have HG := Lib.hid hg
    have HB := Lib.hid hbl
    have hzr := hbl.size
    clear hg hbl
    have hRl : (rowsTo n x b s t k).length ≤ 1000000 := by
      rw [rowsTo_len]; exact Nat.le_trans (Nat.mul_le_mul_right _ hk) hprod
    by_cases hlt : k < t.size
    · have hkL : k < L.length := by rw [hHl.out]; omega
      have hc0 := (HB.out.cell (p := ⟨g2, k, none⟩) (show g2 < w1.heap.size by omega)).trans (HO2.out.cellStr k hkL).1
      rw [hHa.out k hkL] at hc0
      have v2 := ((HB2.out.trans (HB.out.mono hz2)).cell (p := ⟨w.heap.size, 2, none⟩) (show w.heap.size < W.heap.size by omega)).trans u2
      have hHr := Lib.hid (headS_row h3 h8 x b s t k)
      have hY : Hid (rowsTo n x b s t (k + 1) = rowsTo n x b s t k ++ walkL (chF n) (headS n x b s t k) x x.length) := Lib.hid rfl
      obtain ⟨r, hr⟩ : ∃ r, Hid (headS n x b s t k = r) := ⟨_, Lib.hid rfl⟩
      rw [hr.out] at hc0 hHr hY
      have hYl : Hid ((walkL (chF n) r x x.length).length = x.length) := Lib.hid (walkL_len _ _ _ _)
      have HLd : Hid (∀ W', Below w1.heap.size w1 W' → Calls Try.prog 155 #[.slice A x.length c, .string r] W' fun e w' => ∃ A2 c2, e = .returned (.tuple #[.slice A2 (walkL (chF n) r x x.length).length c2, .string (after (chF n) r x x.length)]) ∧ OwnL w' W'.heap.size w'.heap.size A2 1 encString (walkL (chF n) r x x.length) ∧ Below W'.heap.size W' w') := Lib.hid (fun W' hb' => by
        have hbW := HB2.out.trans (hb'.mono hz2)
        exact l4Lead_any n r x A c W' ((H.out.below hbW (Nat.le_refl _)).more hbW.size) h3 h8 hHr.out (by omega) hxs.out)
      obtain ⟨E, hE⟩ : ∃ E, Hid (after (chF n) r x x.length = E) := ⟨_, Lib.hid rfl⟩
      obtain ⟨Y, hYe⟩ : ∃ Y, Hid (walkL (chF n) r x x.length = Y) := ⟨_, Lib.hid rfl⟩
      rw [hYe.out] at hY hYl
      rw [hYe.out, hE.out] at HLd
      have hY0 : 0 < Y.length := by have := hYl.out; omega
      have hY1 : Y.length ≤ 1000 := by have := hYl.out; omega
      obtain ⟨R, hR⟩ : ∃ R, Hid (rowsTo n x b s t k = R) := ⟨_, Lib.hid rfl⟩
      rw [hR.out] at HG hY hRl
      go_wp2_with (first
        | (go_at_call 155; refine (HLd.out wr HB.out).mono ?_; rintro e w4 ⟨A4, c4, rfl, ho4, hb4⟩; have HO4 := Lib.hid ho4; have HB4 := Lib.hid hb4; have hz4 := hb4.size; have HG4 := Lib.hid (HG.out.later hb4); clear ho4 hb4)
        | (at_builtin; refine wpList_pushAllA rfl (.tmp 31) (.tmp 32) 23 rfl w1.heap.size 9 _ 1 16 encString rfl String_info rfl (by omega) _ R Y A4 c4 _ rfl rfl (HO4.out.rd encString_len) hY0 HG4.out encString_len (by simp [encString, Value.oneCell']) (by omega) (by omega) (by omega) ?_; intro v5 w5 g5 b5 gb5 k5; have HG5 := Lib.hid g5; have HB5 := Lib.hid ((HB.out.trans (HB4.out.mono hzr)).trans b5); clear g5 b5 gb5 k5))
      go_roundw
      case rel => exact ⟨k + 1, by omega, by go_num, by rw [hY.out]; exact HG5.out, HB5.out⟩
      case measure => simp [intOf]; omega
    · obtain rfl : k = t.size := by omega
      obtain ⟨A5, c5, rfl, ho5⟩ := HG.out.own encString_len
      have HO5 := Lib.hid ho5
      have hcp := HG.out.capN'
      clear ho5
      go_wp2
      go_ret
      exact ⟨A5, c5, rfl, hcp, HO5.out.mono (by omega) (Nat.le_refl _), hWb.out.trans ((HB2.out.trans (HB.out.mono hz2)).mono hsz0)⟩
end Go.Proofs.Ytbfhfnejppfehaa

/-
  The reader of choices: rows, texts that are spoilt.
-/
namespace Go.Proofs.Ytbfhfnejppfehaa
open Go.RowKit
set_option linter.unusedVariables false
set_option linter.unusedSimpArgs false
set_option maxRecDepth 100000

def fct : Nat → Nat
  | 0 => 1
  | n + 1 => (n + 1) * fct n
theorem fct_pos : ∀ n, 1 ≤ fct n
  | 0 => Nat.le_refl _
  | n + 1 => by
    have := fct_pos n
    show 1 ≤ (n + 1) * fct n
    exact Nat.le_trans (show 1 ≤ 1 * 1 by omega) (Nat.mul_le_mul (by omega) this)
theorem fct_mono {m n : Nat} (h : m ≤ n) : fct m ≤ fct n := by
  induction n with
  | zero => obtain rfl : m = 0 := by omega
            exact Nat.le_refl _
  | succ n ih =>
    by_cases e : m = n + 1
    · rw [e]; exact Nat.le_refl _
    · refine Nat.le_trans (ih (by omega)) ?_
      show fct n ≤ (n + 1) * fct n
      exact Nat.le_mul_of_pos_left _ (by omega)
theorem fct_8 : fct 8 = 40320 := rfl
set_option maxHeartbeats 1600000 in
theorem l1Fact_any (n : Nat) (w : World) (hn : n ≤ 8) :
    Calls Try.prog 98 #[.int .i64 (n : Int)] w fun e w' => e = .returned (.int .i64 (fct n : Int)) ∧ w = w' := by
  have h8 := fct_mono hn
  rw [fct_8] at h8
  go_enter Try.func98, Try.ntmps98
  go_wp2
  go_loopw [0, 3] (fun a b wr => ∃ j c : Nat, j ≤ n ∧ a = .int .i64 j ∧ b = .int .i64 c ∧ c * fct j = fct n ∧ w = wr) (fun a _ _ => (intOf a).toNat)
  case atStart => exact ⟨n, 1, Nat.le_refl _, by rfl, by rfl, by omega, rfl⟩
  case round =>
    obtain ⟨j, c, hj, rfl, rfl, hc, rfl⟩ := hrel
    have hcf : c ≤ fct n := by rw [← hc]; exact Nat.le_mul_of_pos_right _ (fct_pos j)
    have Hc := Lib.hid hc
    clear hc
    by_cases h1 : 1 < j
    · obtain ⟨m, rfl⟩ : ∃ m, j = m + 1 := ⟨j - 1, by omega⟩
      have hd : decide ((1 : Int) < (m : Int) + 1) = true := by simp; omega
      have hcm : c * (m + 1) ≤ 40320 := by
        have := Hc.out
        have h2 : c * (m + 1) ≤ c * fct (m + 1) := Nat.mul_le_mul_left _ (by show m + 1 ≤ (m + 1) * fct m; exact Nat.le_mul_of_pos_right _ (fct_pos m))
        omega
      have hcmi : ((c : Int) * ((m : Int) + 1)) = ((c * (m + 1) : Nat) : Int) := by simp
      obtain ⟨d, hd2⟩ : ∃ d : Nat, Hid (c * (m + 1) = d) := ⟨_, Lib.hid rfl⟩
      have hcmi2 : ((c : Int) * ((m : Int) + 1)) = (d : Int) := by rw [hcmi, hd2.out]
      rw [hd2.out] at hcm
      clear hcmi
      go_wp2
      go_roundw
      case rel => exact ⟨m, d, by omega, by go_num, by rfl, by rw [← hd2.out, ← Hc.out, Nat.mul_assoc]; rfl, by first | rfl | trivial⟩
      case measure => simp [intOf]
    · have hd : decide ((1 : Int) < (j : Int)) = false := by simp; omega
      have hf : Hid (c = fct n) := Lib.hid (by
        have := Hc.out
        rcases (show j = 0 ∨ j = 1 by omega) with rfl | rfl
        · simpa [fct] using this
        · simpa [fct] using this)
      go_wp2
      go_ret
      exact ⟨by rw [hf.out]; rfl, rfl⟩
def strLen : Value → Nat
  | .string s => s.size
  | _ => 0
set_option maxHeartbeats 3200000 in
theorem rowOf_any (n k : Nat) (w : World) (h3 : 3 ≤ n) (h8 : n ≤ 8) (hk : k < fct n) :
    Calls Try.prog 97 #[.int .i64 (n : Int), .int .i64 (k : Int)] w fun e w' => ∃ s : ByteArray, e = .returned (.tuple #[.string s, .bool true]) ∧ s.size = n ∧ Below w.heap.size w w' := by
  have hf8 := fct_mono h8
  rw [fct_8] at hf8
  have e1 := B_t (show inB (n : Int) 3 8 from ⟨by omega, by omega⟩)
  have e2 := B_t (show inB (k : Int) 0 ((fct n : Int) - 1) from ⟨by omega, by omega⟩)
  have hr := roundsS_size (n := (n : Int)) (by omega) (by omega)
  go_enter Try.func97, Try.ntmps97
  go_wp2_with (first | (go_at_call 90; refine (l1In_any _ _ _ _).mono ?_; rintro e w' ⟨rfl, rfl⟩) | (go_at_call 98; refine (l1Fact_any n _ h8).mono ?_; rintro e w' ⟨rfl, rfl⟩) | (go_at_call 125; refine (l1Rounds_any (n : Int) _ (by omega) (by omega)).mono ?_; rintro e w' ⟨rfl, rfl⟩))
  obtain ⟨R, hR⟩ : ∃ R, Hid (roundsS (n : Int) = R) := ⟨_, Lib.hid rfl⟩
  rw [hR.out] at hr ⊢
  have HR := Lib.hid (show R.size = n by omega)
  clear hr e1 e2
  go_loopw [1, 6, 7] (fun a r o wr => ∃ (j k : Nat) (rr oo : ByteArray), j ≤ n ∧ k < fct j ∧ a = .int .i64 k ∧ r = .string rr ∧ o = .string oo ∧ rr.size = j ∧ oo.size + j = n ∧ Below w.heap.size w wr) (fun _ r _ _ => strLen r)
  case atStart => exact ⟨n, k, R, ⟨#[]⟩, Nat.le_refl _, hk, by rfl, by rfl, by rfl, HR.out, by show 0 + n = n; omega, Below.refl _ _⟩
  case round =>
    obtain ⟨j, k, rr, oo, hj, hk, rfl, rfl, rfl, hrr, hoo, hbl⟩ := hrel
    have Hb := Lib.hid hbl
    have Hoo := Lib.hid hoo
    clear hbl hoo HR
    by_cases h1 : 0 < rr.size
    · obtain ⟨m, rfl⟩ : ∃ m, j = m + 1 := ⟨j - 1, by omega⟩
      have Hrr := Lib.hid hrr
      have hd : decide (0 < rr.size) = true := decide_eq_true h1
      have hm7 : m ≤ 7 := by omega
      have hf1 := fct_pos m
      have hfm := fct_mono (show m ≤ 8 by omega)
      rw [fct_8] at hfm
      have hkk : k < (m + 1) * fct m := hk
      have hq : k / fct m < m + 1 := Nat.div_lt_of_lt_mul (by rw [Nat.mul_comm]; exact hkk)
      have hmod : k % fct m < fct m := Nat.mod_lt _ (by omega)
      have hfct : Hid (∀ W : World, Calls Try.prog 98 #[.int .i64 (m : Int)] W fun e w' => e = .returned (.int .i64 (fct m : Int)) ∧ W = w') := Lib.hid (fun W => l1Fact_any m W (by omega))
      obtain ⟨F, hF⟩ : ∃ F, Hid (fct m = F) := ⟨_, Lib.hid rfl⟩
      rw [hF.out] at hf1 hfm hq hmod hfct
      have hszi : (rr.size : Int) - 1 = (m : Int) := by omega
      obtain ⟨q, hqe⟩ : ∃ q, Hid (k / F = q) := ⟨_, Lib.hid rfl⟩
      rw [hqe.out] at hq
      have he : (k : Int) / (F : Int) = (q : Int) := by rw [← hqe.out]; simp
      obtain ⟨km, hkm⟩ : ∃ km, Hid (k % F = km) := ⟨_, Lib.hid rfl⟩
      have hem : (k : Int) % (F : Int) = (km : Int) := by rw [← hkm.out]; simp
      have hmod' : Hid (km < fct m) := Lib.hid (by rw [← hkm.out, hF.out]; exact hmod)
      have hqs : (q : Int) + 1 ≤ (rr.size : Int) := by omega
      have hqs0 : (q : Int) ≤ (rr.size : Int) := by omega
      have hqn : q + 1 ≤ rr.size := by omega
      have hse : (rr.extract q (q + 1)).size = 1 := by simp only [size_ext]; omega
      have hse2 : (rr.extract 0 q).size = q := by simp only [size_ext]; omega
      have hse3 : (rr.extract (q + 1) rr.size).size = rr.size - (q + 1) := by simp only [size_ext]; omega
      have hos : oo.size ≤ 8 := by have := Hoo.out; omega
      have hrs : rr.size ≤ 8 := by omega
      clear hk hkk hrr hmod
      go_wp2_with (go_at_call 98; refine (hfct.out _).mono ?_; rintro e w' ⟨rfl, rfl⟩)
      go_quiet (fail)
      go_wp2
      go_roundw
      case rel =>
        refine ⟨m, km, _, _, by omega, hmod'.out, by rw [hem], by rfl, by rfl, ?_, ?_, below_drewN Hb.out _⟩
        · simp only [size_app, size_ext]; omega
        · have := Hoo.out; simp only [size_app, size_ext]; omega
      case measure => simp only [strLen, size_app, size_ext]; omega
    · have hd : decide (0 < rr.size) = false := decide_eq_false h1
      have Hoo' : Hid (oo.size = n) := Lib.hid (by have := Hoo.out; omega)
      go_wp2
      go_ret2
      exact ⟨_, rfl, Hoo'.out, Hb.out⟩
set_option maxHeartbeats 1600000 in
theorem row_any (g K n : Nat) (w : World) (h : Cur w g K) (hK : K ≤ 100000000) (h3 : 3 ≤ n) (h8 : n ≤ 8) :
    Calls Try.prog 51 #[.pointer (some ⟨g, 0, none⟩), .int .i64 (n : Int)] w fun e w' => ∃ s : ByteArray, e = .returned (.string s) ∧ s.size = n ∧ Cur w' g (K + 2) ∧ Turn g w w' := by
  have H := Lib.hid h
  clear h
  have hf8 := fct_mono h8
  rw [fct_8] at hf8
  have hf1 := fct_pos n
  have hfct : Hid (∀ W : World, Calls Try.prog 98 #[.int .i64 (n : Int)] W fun e w' => e = .returned (.int .i64 (fct n : Int)) ∧ W = w') := Lib.hid (fun W => l1Fact_any n W (by omega))
  go_enter Try.func51, Try.ntmps51
  go_wp2_with (first | (go_at_call 98; refine (hfct.out _).mono ?_; rintro e w' ⟨rfl, rfl⟩) | (go_at_call 50; refine (pick_any g K (fct n : Int) _ H.out (by omega) (by omega)).mono ?_; rintro e w1 ⟨x, rfl, hx0, hx1, hc, ht⟩; have HC := Lib.hid hc; have HT := Lib.hid ht; clear hc ht; obtain ⟨k, rfl⟩ : ∃ k : Nat, x = (k : Int) := ⟨x.toNat, by omega⟩; have hk : k < fct n := (by omega)) | (go_at_call 97; refine (rowOf_any n k _ h3 h8 hk).mono ?_; rintro e w2 ⟨s, rfl, hs, hb⟩; have HS := Lib.hid hs; have HB := Lib.hid hb; clear hs hb))
  go_ret
  exact ⟨_, rfl, HS.out, HC.out.later HB.out, HT.out.then HB.out⟩
end Go.Proofs.Ytbfhfnejppfehaa
