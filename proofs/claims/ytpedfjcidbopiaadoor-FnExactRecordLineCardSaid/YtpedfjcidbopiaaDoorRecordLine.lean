/-
  The line of a record: contracts of both sides.
-/
import Derived.Test.YtpedfjcidbopiaaDoorJoin
import Derived.Test.YtpedfjcidbopiaaDoorRecord
import Derived.Test.YtpedfjcidbopiaaDoorTyRecord
import Derived.Test.YtpedfjcidbopiaaDoorReginv
import Derived.Test.YtpedfjcidbopiaaDoorGuse
namespace Go.Proofs.YtpedfjcidbopiaaDoor
open Go.RowKit
set_option linter.unusedVariables false
set_option linter.unusedSimpArgs false
set_option maxRecDepth 100000

/-- The sum over the first k bytes. -/
def rcSum (s : ByteArray) : Nat → Int
  | 0 => 1
  | k + 1 => (33 * rcSum s k + bat s k) % 99991
theorem rcSum_bd (s : ByteArray) : ∀ k, 0 ≤ rcSum s k ∧ rcSum s k < 99991
  | 0 => ⟨by show (0 : Int) ≤ 1; decide, by show (1 : Int) < 99991; decide⟩
  | k + 1 => ⟨Int.emod_nonneg _ (by decide), Int.emod_lt_of_pos _ (by decide)⟩
def rcText (x : Rcd) : ByteArray := (((((((numS x.day.toNat ++ ⟨#[32]⟩) ++ x.meth) ++ ⟨#[32]⟩) ++ x.touch) ++ ⟨#[32]⟩) ++ numS x.rows.toNat) ++ ⟨#[32]⟩) ++ x.note
def rcLine (x : Rcd) : ByteArray := ((rcText x ++ ⟨#[32]⟩) ++ numS (rcSum (rcText x) (rcText x).size).toNat) ++ ⟨#[10]⟩
def rcWords (x : Rcd) : List ByteArray := [numS x.day.toNat, x.meth, x.touch, numS x.rows.toNat, x.note]
theorem rc_join (x : Rcd) : joinS (rcWords x) ⟨#[32]⟩ = rcText x := by
  unfold rcWords rcText
  rw [show [numS x.day.toNat, x.meth, x.touch, numS x.rows.toNat, x.note] = (([numS x.day.toNat, x.meth, x.touch] ++ [numS x.rows.toNat]) ++ [x.note]) from rfl]
  rw [show ([numS x.day.toNat, x.meth, x.touch] ++ [numS x.rows.toNat] : List ByteArray) = numS x.day.toNat :: ([x.meth, x.touch] ++ [numS x.rows.toNat]) from rfl, joinS_snoc]
  rw [show (numS x.day.toNat :: ([x.meth, x.touch] ++ [numS x.rows.toNat]) : List ByteArray) = (numS x.day.toNat :: [x.meth, x.touch]) ++ [numS x.rows.toNat] from rfl, joinS_snoc]
  rw [show (numS x.day.toNat :: [x.meth, x.touch] : List ByteArray) = (numS x.day.toNat :: [x.meth]) ++ [x.touch] from rfl, joinS_snoc]
  rw [show (numS x.day.toNat :: [x.meth] : List ByteArray) = (numS x.day.toNat :: []) ++ [x.meth] from rfl, joinS_snoc, joinS_one]
theorem rc_sizes {x : Rcd} (h : recP x) : (numS x.day.toNat).size ≤ 10 ∧ x.meth.size ≤ 10 ∧ x.touch.size ≤ 60 ∧ (numS x.rows.toNat).size ≤ 10 ∧ x.note.size ≤ 20 := by
  obtain ⟨⟨h1, h2⟩, h3, h4, ⟨h5, h6⟩, h7⟩ := h
  exact ⟨numS_bd (by omega), h3.2.2, h4.2.2, numS_bd (by omega), h7.2⟩
theorem rc_text_size {x : Rcd} (h : recP x) : (rcText x).size ≤ 1100 := by
  obtain ⟨h1, h2, h3, h4, h5⟩ := rc_sizes h
  unfold rcText
  have h9 : (⟨#[32]⟩ : ByteArray).size = 1 := rfl
  simp only [ByteArray.size_append, h9]
  omega



theorem l28Sum_any (s : ByteArray) (w : World) (hl : s.size ≤ 1048576) :
    Calls Tryd.prog 124 #[.string s] w fun e w' => e = .returned (.int .i64 (rcSum s s.size)) ∧ Below w.heap.size w w' := by
  go_enter Tryd.func124, Tryd.ntmps124
  go_wp2
  go_loopw [3, 4] (fun v i wr => ∃ k : Nat, k ≤ s.size ∧ v = .int .i64 (rcSum s k) ∧ i = .int .i64 (k : Int) ∧ Below w.heap.size w wr) (fun _ i _ => s.size - (intOf i).toNat)
  case atStart => exact ⟨0, by omega, by rfl, by rfl, Below.refl _ _⟩
  case round =>
    obtain ⟨k, hk, rfl, rfl, hbl⟩ := hrel
    have Hbl := Lib.hid hbl
    clear hbl
    obtain ⟨hs0, hs1⟩ := rcSum_bd s k
    have hb0 := bat_lo s k
    have hb1 := bat_hi s k
    by_cases hlt : k < s.size
    · have hsu : Hid (rcSum s (k + 1) = (33 * rcSum s k + bat s k) % 99991) := Lib.hid rfl
      generalize rcSum s k = q at *
      have hb2 : Hid (bat s k = bat s k) := Lib.hid rfl
      have a1 : IntKind.i64.wrap (33 * q) = 33 * q := IntWalk.i64_in _ (by omega)
      have a2 : IntKind.i64.wrap (33 * q + bat s k) = 33 * q + bat s k := IntWalk.i64_in _ (by omega)
      have a3 : (33 * q + bat s k).tmod 99991 = (33 * q + bat s k) % 99991 := Int.tmod_eq_emod_of_nonneg (by omega)
      go_wp2
      go_roundw
      case rel => exact ⟨k + 1, by omega, by rw [hsu.out], by go_num, Hbl.out⟩
      case measure => simp [intOf]; omega
    · obtain rfl : k = s.size := by omega
      go_wp2
      go_ret
      exact ⟨rfl, Hbl.out⟩

set_option maxHeartbeats 1600000 in
theorem l28Line_any (x : Rcd) (w : World) (hp : recP x) :
    Calls Tryd.prog 63 #[.agg #[.int .i64 x.day, .string x.meth, .string x.touch, .int .i64 x.rows, .string x.note]] w fun e w' => e = .returned (.string (rcLine x)) ∧ Below w.heap.size w w' := by
  obtain ⟨z1, z2, z3, z4, z5⟩ := rc_sizes hp
  have ztx := rc_text_size hp
  have hd0 : 0 ≤ x.day := hp.1.1
  have hd1 : x.day ≤ 99999 := hp.1.2
  have hr0 : 1 ≤ x.rows := hp.2.2.2.1.1
  have hr1 : x.rows ≤ 800 := hp.2.2.2.1.2
  have hjn := rc_join x
  have hLn : Hid (rcLine x = ((rcText x ++ ⟨#[32]⟩) ++ numS (rcSum (rcText x) (rcText x).size).toNat) ++ ⟨#[10]⟩) := Lib.hid rfl
  have hTe : Hid (rcText x = (((((((numS x.day.toNat ++ ⟨#[32]⟩) ++ x.meth) ++ ⟨#[32]⟩) ++ x.touch) ++ ⟨#[32]⟩) ++ numS x.rows.toNat) ++ ⟨#[32]⟩) ++ x.note) := Lib.hid rfl
  have hWe : Hid (rcWords x = [numS x.day.toNat, x.meth, x.touch, numS x.rows.toNat, x.note]) := Lib.hid rfl
  have ed : ((x.day.toNat : Nat) : Int) = x.day := Int.toNat_of_nonneg hd0
  have er : ((x.rows.toNat : Nat) : Int) = x.rows := Int.toNat_of_nonneg (by omega)
  have Hd : Hid (∀ W, Below w.heap.size w W → Calls Tryd.prog 57 #[.int .i64 x.day] W fun e w' => e = .returned (.string (numS x.day.toNat)) ∧ Below W.heap.size W w') := Lib.hid fun W hb => by
    have := l1Num_any x.day.toNat x.day.toNat W (Nat.le_refl _) (by omega)
    rw [ed] at this; exact this
  have Hr : Hid (∀ W, Below w.heap.size w W → Calls Tryd.prog 57 #[.int .i64 x.rows] W fun e w' => e = .returned (.string (numS x.rows.toNat)) ∧ Below W.heap.size W w') := Lib.hid fun W hb => by
    have := l1Num_any x.rows.toNat x.rows.toNat W (Nat.le_refl _) (by omega)
    rw [er] at this; exact this
  obtain ⟨q0, q1⟩ := rcSum_bd (rcText x) (rcText x).size
  have es : (((rcSum (rcText x) (rcText x).size).toNat : Nat) : Int) = rcSum (rcText x) (rcText x).size := Int.toNat_of_nonneg q0
  have zs : (numS (rcSum (rcText x) (rcText x).size).toNat).size ≤ 10 := numS_bd (by omega)
  have Hs : Hid (∀ W, Below w.heap.size w W → Calls Tryd.prog 57 #[.int .i64 (rcSum (rcText x) (rcText x).size)] W fun e w' => e = .returned (.string (numS (rcSum (rcText x) (rcText x).size).toNat)) ∧ Below W.heap.size W w') := Lib.hid fun W hb => by
    have := l1Num_any (rcSum (rcText x) (rcText x).size).toNat _ W (Nat.le_refl _) (by omega)
    rw [es] at this; exact this
  clear ed er es hp
  generalize rcLine x = LN at *
  generalize rcWords x = WS at *
  generalize rcText x = TX at *
  generalize numS x.day.toNat = ND at *
  generalize numS x.rows.toNat = NR at *
  generalize x.day = day at *
  generalize x.rows = rows at *
  generalize x.meth = M at *
  generalize x.touch = T at *
  generalize x.note = N at *
  clear hjn hWe
  obtain ⟨W0, hW0, hb0, a0, a1, a2, a3, a4, hs0⟩ : ∃ W0 : World, Hid ((w.alloc (.cells #[.int .i64 day, .string M, .string T, .int .i64 rows, .string N] 34)) = W0) ∧ Hid (Below w.heap.size w W0) ∧ W0.cell? ⟨w.heap.size, 0, none⟩ = some (.int .i64 day) ∧ W0.cell? ⟨w.heap.size, 1, none⟩ = some (.string M) ∧ W0.cell? ⟨w.heap.size, 2, none⟩ = some (.string T) ∧ W0.cell? ⟨w.heap.size, 3, none⟩ = some (.int .i64 rows) ∧ W0.cell? ⟨w.heap.size, 4, none⟩ = some (.string N) ∧ w.heap.size < W0.heap.size :=
    ⟨_, Lib.hid rfl, Lib.hid ((Below.refl _ _).alloc (Nat.le_refl _) _), by simp [go_sem], by simp [go_sem], by simp [go_sem], by simp [go_sem], by simp [go_sem], by simp⟩
  have u0 : ∀ y : Later W0, y.W.cell? ⟨w.heap.size, 0, none⟩ = some (.int .i64 day) := fun y => (y.hb.cell (p := ⟨w.heap.size, 0, none⟩) hs0).trans a0
  have u1 : ∀ y : Later W0, y.W.cell? ⟨w.heap.size, 1, none⟩ = some (.string M) := fun y => (y.hb.cell (p := ⟨w.heap.size, 1, none⟩) hs0).trans a1
  have u2 : ∀ y : Later W0, y.W.cell? ⟨w.heap.size, 2, none⟩ = some (.string T) := fun y => (y.hb.cell (p := ⟨w.heap.size, 2, none⟩) hs0).trans a2
  have u3 : ∀ y : Later W0, y.W.cell? ⟨w.heap.size, 3, none⟩ = some (.int .i64 rows) := fun y => (y.hb.cell (p := ⟨w.heap.size, 3, none⟩) hs0).trans a3
  have u4 : ∀ y : Later W0, y.W.cell? ⟨w.heap.size, 4, none⟩ = some (.string N) := fun y => (y.hb.cell (p := ⟨w.heap.size, 4, none⟩) hs0).trans a4
  have hw32 : (⟨#[32]⟩ : ByteArray).size = 1 := rfl
  have hst : TX.size = ND.size + 1 + M.size + 1 + T.size + 1 + NR.size + 1 + N.size := by rw [hTe.out]; simp only [ByteArray.size_append, hw32]
  have k1 : ¬ 9223372036854775807 < ND.size + 1 := by omega
  have k2 : ¬ 9223372036854775807 < ND.size + 1 + M.size := by omega
  have k3 : ¬ 9223372036854775807 < ND.size + 1 + M.size + 1 := by omega
  have k4 : ¬ 9223372036854775807 < ND.size + 1 + M.size + 1 + T.size := by omega
  have k5 : ¬ 9223372036854775807 < ND.size + 1 + M.size + 1 + T.size + 1 := by omega
  have k6 : ¬ 9223372036854775807 < ND.size + 1 + M.size + 1 + T.size + 1 + NR.size := by omega
  have k7 : ¬ 9223372036854775807 < ND.size + 1 + M.size + 1 + T.size + 1 + NR.size + 1 := by omega
  have k8 : ¬ 9223372036854775807 < ND.size + 1 + M.size + 1 + T.size + 1 + NR.size + 1 + N.size := by omega
  have Hst := Lib.hid hst
  clear hst a0 a1 a2 a3 a4
  go_enter Tryd.func63, Tryd.ntmps63
  go_upto_region 1 with fail
  rw [hW0.out]
  clear hW0
  (refine wp_region_later (by kernel_rfl) (by kernel_rfl) ?_; (repeat (go_big_quiet_step ((first | (go_at_call 57; with_reducible show Calls _ _ #[Value.int .i64 day] _ _; refine Later.call (Hd.out _ (hb0.out.trans (Below.mono (Later.hb _) hb0.out.size)))) | (go_at_call 57; with_reducible show Calls _ _ #[Value.int .i64 rows] _ _; refine Later.call (Hr.out _ (hb0.out.trans (Below.mono (Later.hb _) hb0.out.size)))))))); refine wpQuiet_nil ?_; intro _ hw'; obtain ⟨y, hw''⟩ := hw'; subst hw'')
  rw [← hTe.out]
  have hby : Hid (Below w.heap.size w y.W) := Lib.hid (hb0.out.trans (y.hb.mono hb0.out.size))
  have j1 : ¬ 9223372036854775807 < TX.size + 1 := by omega
  have j2 : ¬ 9223372036854775807 < TX.size + 1 + (numS (rcSum TX TX.size).toNat).size := by omega
  have j3 : ¬ 9223372036854775807 < TX.size + 1 + (numS (rcSum TX TX.size).toNat).size + 1 := by omega
  go_wp2_with (first
    | (go_at_call 124; refine (l28Sum_any TX y.W (by omega)).mono ?_; rintro e w2 ⟨rfl, hb2⟩; have HB2 := Lib.hid (hby.out.trans (hb2.mono hby.out.size)); clear hb2)
    | (go_at_call 57; refine (Hs.out _ HB2.out).mono ?_; rintro e w3 ⟨rfl, hb3⟩; have HB3 := Lib.hid (HB2.out.trans (hb3.mono HB2.out.size)); clear hb3))
  go_ret
  have e9 := hLn.out
  subst e9
  exact ⟨rfl, HB3.out⟩
/-- What the operations of the first region yield; g: the block of the words. -/
def rlVal (bx : Nat) (day rows : Int) (M T N ND NR TX : ByteArray) (g : Nat) : Nat → Value
  | 0 => .pointer (some ⟨bx, 0, none⟩)
  | 1 => .int .i64 day
  | 2 => .string ND
  | 3 => .pointer (some ⟨bx, 1, none⟩)
  | 4 => .string M
  | 5 => .pointer (some ⟨bx, 2, none⟩)
  | 6 => .string T
  | 7 => .pointer (some ⟨bx, 3, none⟩)
  | 8 => .int .i64 rows
  | 9 => .string NR
  | 10 => .pointer (some ⟨bx, 4, none⟩)
  | 11 => .string N
  | 12 => .slice (some ⟨g, 0, none⟩) 5 5
  | 13 => .string TX
  | 14 => .string TX
  | _ => undef
theorem rlVal_g {bx : Nat} {day rows : Int} {M T N ND NR TX : ByteArray} {g g' k : Nat} (h : k ≠ 12) : rlVal bx day rows M T N ND NR TX g k = rlVal bx day rows M T N ND NR TX g' k := by
  unfold rlVal
  split <;> first | rfl | exact absurd rfl h
def rlI (W : World) (WS : List ByteArray) (g : Nat) (L : Nat → Bool) (w : World) : Prop := Below W.heap.size W w ∧ (L 12 = true → RdL w w.heap.size (some ⟨g, 0, none⟩) 1 encString WS)
theorem rlI.keep {W w w' : World} {WS : List ByteArray} {g i : Nat} {L : Nat → Bool} (h : rlI W WS g L w) (hi : i ≠ 12) (hb : Below w.heap.size w w') : rlI W WS g (onL L i) w' :=
  ⟨h.1.trans (hb.mono h.1.size), fun hl => by rw [onL_other L (fun e => hi e.symm)] at hl; exact ((h.2 hl).below hb (Nat.le_refl _)).more hb.size⟩
theorem rd_lit5 (w : World) (a b c d e : ByteArray) (t : TypeId) : RdL (w.alloc (.cells #[.string a, .string b, .string c, .string d, .string e] t)) (w.alloc (.cells #[.string a, .string b, .string c, .string d, .string e] t)).heap.size (some ⟨w.heap.size, 0, none⟩) 1 encString [a, b, c, d, e] := by
  refine .inr ⟨w.heap.size, 0, rfl, by simp, fun i hi j u hu => ?_⟩
  rw [World.cell?_alloc_new]
  have hj : j = 0 := by
    have := (List.getElem?_eq_some_iff.1 hu).1
    simp [encString] at this; omega
  subst hj
  simp only [List.length_cons, List.length_nil] at hi
  match i, hi, hu with
  | 0, _, hu => simpa [encString] using hu
  | 1, _, hu => simpa [encString] using hu
  | 2, _, hu => simpa [encString] using hu
  | 3, _, hu => simpa [encString] using hu
  | 4, _, hu => simpa [encString] using hu
set_option maxHeartbeats 3200000 in
theorem recordLine_any (x : Rcd) (w : World) (hp : recP x) (htab : Tab w) :
    Calls Tryd.prog 65 #[.agg #[.int .i64 x.day, .string x.meth, .string x.touch, .int .i64 x.rows, .string x.note]] w fun e w' => e = .returned (.string (rcLine x)) ∧ Below w.heap.size w w' := by
  have HT := Lib.hid htab
  obtain ⟨z1, z2, z3, z4, z5⟩ := rc_sizes hp
  have ztx := rc_text_size hp
  have hd0 : 0 ≤ x.day := hp.1.1
  have hd1 : x.day ≤ 99999 := hp.1.2
  have hr0 : 1 ≤ x.rows := hp.2.2.2.1.1
  have hr1 : x.rows ≤ 800 := hp.2.2.2.1.2
  have hjn := rc_join x
  have hLn : Hid (rcLine x = ((rcText x ++ ⟨#[32]⟩) ++ numS (rcSum (rcText x) (rcText x).size).toNat) ++ ⟨#[10]⟩) := Lib.hid rfl
  have hTe : Hid (rcText x = (((((((numS x.day.toNat ++ ⟨#[32]⟩) ++ x.meth) ++ ⟨#[32]⟩) ++ x.touch) ++ ⟨#[32]⟩) ++ numS x.rows.toNat) ++ ⟨#[32]⟩) ++ x.note) := Lib.hid rfl
  have hWe : Hid (rcWords x = [numS x.day.toNat, x.meth, x.touch, numS x.rows.toNat, x.note]) := Lib.hid rfl
  have ed : ((x.day.toNat : Nat) : Int) = x.day := Int.toNat_of_nonneg hd0
  have er : ((x.rows.toNat : Nat) : Int) = x.rows := Int.toNat_of_nonneg (by omega)
  have Hd : Hid (∀ W, Below w.heap.size w W → Calls Tryd.prog 60 #[.int .i64 x.day] W fun e w' => e = .returned (.string (numS x.day.toNat)) ∧ Below W.heap.size W w') := Lib.hid fun W hb => by
    have := decimal_any x.day.toNat W (by omega) (HT.out.later hb)
    rw [ed] at this; exact this
  have Hr : Hid (∀ W, Below w.heap.size w W → Calls Tryd.prog 60 #[.int .i64 x.rows] W fun e w' => e = .returned (.string (numS x.rows.toNat)) ∧ Below W.heap.size W w') := Lib.hid fun W hb => by
    have := decimal_any x.rows.toNat W (by omega) (HT.out.later hb)
    rw [er] at this; exact this
  obtain ⟨q0, q1⟩ := rcSum_bd (rcText x) (rcText x).size
  have es : (((rcSum (rcText x) (rcText x).size).toNat : Nat) : Int) = rcSum (rcText x) (rcText x).size := Int.toNat_of_nonneg q0
  have zs : (numS (rcSum (rcText x) (rcText x).size).toNat).size ≤ 10 := numS_bd (by omega)
  have Hs : Hid (∀ W, Below w.heap.size w W → Calls Tryd.prog 60 #[.int .i64 (rcSum (rcText x) (rcText x).size)] W fun e w' => e = .returned (.string (numS (rcSum (rcText x) (rcText x).size).toNat)) ∧ Below W.heap.size W w') := Lib.hid fun W hb => by
    have := decimal_any (rcSum (rcText x) (rcText x).size).toNat W (by omega) (HT.out.later hb)
    rw [es] at this; exact this
  clear ed er es hp
  generalize rcLine x = LN at *
  generalize rcWords x = WS at *
  generalize rcText x = TX at *
  generalize numS x.day.toNat = ND at *
  generalize numS x.rows.toNat = NR at *
  generalize x.day = day at *
  generalize x.rows = rows at *
  generalize x.meth = M at *
  generalize x.touch = T at *
  generalize x.note = N at *
  have hWl : WS.length = 5 := by rw [hWe.out]; rfl
  have HJ : Hid (∀ g W, RdL W W.heap.size (some ⟨g, 0, none⟩) 1 encString WS → Calls Tryd.prog 77 #[.slice (some ⟨g, 0, none⟩) 5 5, .string ⟨#[32]⟩] W fun e w' => e = .returned (.string TX) ∧ Below W.heap.size W w') := Lib.hid fun g W hr => by
    have := joined_any WS ⟨#[32]⟩ (some ⟨g, 0, none⟩) 5 W hr (by omega) (by omega) (by omega) (by rw [hjn]; omega)
    rw [hWl, hjn] at this; exact this
  obtain ⟨W0, hW0, hb0, a0, a1, a2, a3, a4, hs0⟩ : ∃ W0 : World, Hid ((w.alloc (.cells #[.int .i64 day, .string M, .string T, .int .i64 rows, .string N] 34)) = W0) ∧ Hid (Below w.heap.size w W0) ∧ W0.cell? ⟨w.heap.size, 0, none⟩ = some (.int .i64 day) ∧ W0.cell? ⟨w.heap.size, 1, none⟩ = some (.string M) ∧ W0.cell? ⟨w.heap.size, 2, none⟩ = some (.string T) ∧ W0.cell? ⟨w.heap.size, 3, none⟩ = some (.int .i64 rows) ∧ W0.cell? ⟨w.heap.size, 4, none⟩ = some (.string N) ∧ w.heap.size < W0.heap.size :=
    ⟨_, Lib.hid rfl, Lib.hid ((Below.refl _ _).alloc (Nat.le_refl _) _), by simp [go_sem], by simp [go_sem], by simp [go_sem], by simp [go_sem], by simp [go_sem], by simp⟩
  clear hjn hWl
  go_enter Tryd.func65, Tryd.ntmps65
  go_upto_region 1 with fail
  rw [hW0.out]
  clear hW0
  refine wp_region_inv0 (by kernel_rfl) (rlVal w.heap.size day rows M T N ND NR TX) (rlI W0 WS) (by kernel_rfl) (by kernel_rfl) 0 ⟨(Below.refl _ _).drew, fun h => by cases h⟩ ?_ (fun g => [(some 6, .pointer (some ⟨w.heap.size, 0, none⟩)), (some 7, .int .i64 day), (some 8, .string ND), (some 9, .pointer (some ⟨w.heap.size, 1, none⟩)), (some 10, .string M), (some 11, .pointer (some ⟨w.heap.size, 2, none⟩)), (some 12, .string T), (some 13, .pointer (some ⟨w.heap.size, 3, none⟩)), (some 14, .int .i64 rows), (some 15, .string NR), (some 16, .pointer (some ⟨w.heap.size, 4, none⟩)), (some 17, .string N), (some 18, .slice (some ⟨g, 0, none⟩) 5 5), (some 19, .string TX), (some 3, .string TX)]) (fun _ => rfl) ?_ (ready_end (by kernel_rfl))
  · intro i o ho S L w1 ρ hI hLi hw hd hout
    have hbw := hI.1
    have r1 : ρ (.tmp 1) = .pointer (some ⟨w.heap.size, 0, none⟩) := hout _ (not_dst (by kernel_rfl))
    have rc : ∀ v, ρ (.const v) = v := fun v => hout _ not_dst_const
    have rf : ∀ f, ρ (.func f) = .func (.func f) #[] #[] := fun f => hout _ (fun _ _ _ h => by cases h)
    have c0 := (hbw.cell (p := ⟨w.heap.size, 0, none⟩) hs0).trans a0
    have c1 := (hbw.cell (p := ⟨w.heap.size, 1, none⟩) hs0).trans a1
    have c2 := (hbw.cell (p := ⟨w.heap.size, 2, none⟩) hs0).trans a2
    have c3 := (hbw.cell (p := ⟨w.heap.size, 3, none⟩) hs0).trans a3
    have c4 := (hbw.cell (p := ⟨w.heap.size, 4, none⟩) hs0).trans a4
    match i, ho with
    | 0, ho =>
      obtain rfl := Option.some.inj ho.symm
      exact iRun_val (v := .pointer (some ⟨w.heap.size, 0, none⟩)) (w' := w1) (by simp [execOp, r1, go_sem]) ⟨S, fun _ _ => rfl, rfl, hI.keep (by omega) (Below.refl _ _)⟩
    | 1, ho =>
      obtain rfl := Option.some.inj ho.symm
      have d1 : ρ (.tmp 6) = .pointer (some ⟨w.heap.size, 0, none⟩) := hd 0 6 (hw 0 (wait_mem (by kernel_rfl))) rfl
      exact iRun_val (v := .int .i64 day) (w' := w1) (by simp [execOp, d1, c0, go_sem]) ⟨S, fun _ _ => rfl, rfl, hI.keep (by omega) (Below.refl _ _)⟩
    | 2, ho =>
      obtain rfl := Option.some.inj ho.symm
      have d1 : ρ (.tmp 7) = .int .i64 day := hd 1 7 (hw 1 (wait_mem (by kernel_rfl))) rfl
      refine iRun_call (w' := w1) (f := 60) (args := #[.int .i64 day]) (by simp [execOp, d1, rc, rf, go_sem]) ((Hd.out w1 (hb0.out.trans (hbw.mono hb0.out.size))).mono ?_)
      rintro e w2 ⟨rfl, hb2⟩
      exact ⟨_, rfl, S, fun _ _ => rfl, rfl, hI.keep (by omega) hb2⟩
    | 3, ho =>
      obtain rfl := Option.some.inj ho.symm
      exact iRun_val (v := .pointer (some ⟨w.heap.size, 1, none⟩)) (w' := w1) (by simp [execOp, r1, go_sem]) ⟨S, fun _ _ => rfl, rfl, hI.keep (by omega) (Below.refl _ _)⟩
    | 4, ho =>
      obtain rfl := Option.some.inj ho.symm
      have d1 : ρ (.tmp 9) = .pointer (some ⟨w.heap.size, 1, none⟩) := hd 3 9 (hw 3 (wait_mem (by kernel_rfl))) rfl
      exact iRun_val (v := .string M) (w' := w1) (by simp [execOp, d1, c1, go_sem]) ⟨S, fun _ _ => rfl, rfl, hI.keep (by omega) (Below.refl _ _)⟩
    | 5, ho =>
      obtain rfl := Option.some.inj ho.symm
      exact iRun_val (v := .pointer (some ⟨w.heap.size, 2, none⟩)) (w' := w1) (by simp [execOp, r1, go_sem]) ⟨S, fun _ _ => rfl, rfl, hI.keep (by omega) (Below.refl _ _)⟩
    | 6, ho =>
      obtain rfl := Option.some.inj ho.symm
      have d1 : ρ (.tmp 11) = .pointer (some ⟨w.heap.size, 2, none⟩) := hd 5 11 (hw 5 (wait_mem (by kernel_rfl))) rfl
      exact iRun_val (v := .string T) (w' := w1) (by simp [execOp, d1, c2, go_sem]) ⟨S, fun _ _ => rfl, rfl, hI.keep (by omega) (Below.refl _ _)⟩
    | 7, ho =>
      obtain rfl := Option.some.inj ho.symm
      exact iRun_val (v := .pointer (some ⟨w.heap.size, 3, none⟩)) (w' := w1) (by simp [execOp, r1, go_sem]) ⟨S, fun _ _ => rfl, rfl, hI.keep (by omega) (Below.refl _ _)⟩
    | 8, ho =>
      obtain rfl := Option.some.inj ho.symm
      have d1 : ρ (.tmp 13) = .pointer (some ⟨w.heap.size, 3, none⟩) := hd 7 13 (hw 7 (wait_mem (by kernel_rfl))) rfl
      exact iRun_val (v := .int .i64 rows) (w' := w1) (by simp [execOp, d1, c3, go_sem]) ⟨S, fun _ _ => rfl, rfl, hI.keep (by omega) (Below.refl _ _)⟩
    | 9, ho =>
      obtain rfl := Option.some.inj ho.symm
      have d1 : ρ (.tmp 14) = .int .i64 rows := hd 8 14 (hw 8 (wait_mem (by kernel_rfl))) rfl
      refine iRun_call (w' := w1) (f := 60) (args := #[.int .i64 rows]) (by simp [execOp, d1, rc, rf, go_sem]) ((Hr.out w1 (hb0.out.trans (hbw.mono hb0.out.size))).mono ?_)
      rintro e w2 ⟨rfl, hb2⟩
      exact ⟨_, rfl, S, fun _ _ => rfl, rfl, hI.keep (by omega) hb2⟩
    | 10, ho =>
      obtain rfl := Option.some.inj ho.symm
      exact iRun_val (v := .pointer (some ⟨w.heap.size, 4, none⟩)) (w' := w1) (by simp [execOp, r1, go_sem]) ⟨S, fun _ _ => rfl, rfl, hI.keep (by omega) (Below.refl _ _)⟩
    | 11, ho =>
      obtain rfl := Option.some.inj ho.symm
      have d1 : ρ (.tmp 16) = .pointer (some ⟨w.heap.size, 4, none⟩) := hd 10 16 (hw 10 (wait_mem (by kernel_rfl))) rfl
      exact iRun_val (v := .string N) (w' := w1) (by simp [execOp, d1, c4, go_sem]) ⟨S, fun _ _ => rfl, rfl, hI.keep (by omega) (Below.refl _ _)⟩
    | 12, ho =>
      obtain rfl := Option.some.inj ho.symm
      have d1 : ρ (.tmp 8) = .string ND := hd 2 8 (hw 2 (wait_mem (by kernel_rfl))) rfl
      have d2 : ρ (.tmp 10) = .string M := hd 4 10 (hw 4 (wait_mem (by kernel_rfl))) rfl
      have d3 : ρ (.tmp 12) = .string T := hd 6 12 (hw 6 (wait_mem (by kernel_rfl))) rfl
      have d4 : ρ (.tmp 15) = .string NR := hd 9 15 (hw 9 (wait_mem (by kernel_rfl))) rfl
      have d5 : ρ (.tmp 17) = .string N := hd 11 17 (hw 11 (wait_mem (by kernel_rfl))) rfl
      refine iRun_val (v := .slice (some ⟨w1.heap.size, 0, none⟩) 5 5) (w' := w1.alloc (.cells #[.string ND, .string M, .string T, .string NR, .string N] 9)) (by simp [execOp, d1, d2, d3, d4, d5, go_sem]) ⟨w1.heap.size, fun k hk => rlVal_g (fun e => by subst e; rw [hLi] at hk; cases hk), rfl, hbw.alloc hbw.size _, fun _ => ?_⟩
      rw [hWe.out]
      exact rd_lit5 w1 ND M T NR N _
    | 13, ho =>
      obtain rfl := Option.some.inj ho.symm
      have d1 : ρ (.tmp 18) = .slice (some ⟨S, 0, none⟩) 5 5 := hd 12 18 (hw 12 (wait_mem (by kernel_rfl))) rfl
      have hrd := hI.2 (hw 12 (wait_mem (by kernel_rfl)))
      refine iRun_call (w' := w1) (f := 77) (args := #[.slice (some ⟨S, 0, none⟩) 5 5, .string ⟨#[32]⟩]) (by simp [execOp, d1, rc, rf, go_sem]) ((HJ.out S w1 hrd).mono ?_)
      rintro e w2 ⟨rfl, hb2⟩
      exact ⟨_, rfl, S, fun _ _ => rfl, rfl, hI.keep (by omega) hb2⟩
    | 14, ho =>
      obtain rfl := Option.some.inj ho.symm
      have d1 : ρ (.tmp 19) = .string TX := hd 13 19 (hw 13 (wait_mem (by kernel_rfl))) rfl
      exact iRun_val (v := .string TX) (w' := w1) (by simp [execOp, d1, go_sem]) ⟨S, fun _ _ => rfl, rfl, hI.keep (by omega) (Below.refl _ _)⟩
    | _ + 15, ho => exact absurd ho (by simp)
  · intro S L w1 hL hI
    have hbw := Lib.hid (hb0.out.trans (hI.1.mono hb0.out.size))
    clear hI hL
    simp only [putAll, List.foldl_cons, List.foldl_nil, Act.put, List.setIfInBounds_toArray, List.set_cons_zero, List.set_cons_succ, Nat.reduceAdd]
    go_wp2
    go_loopw [4, 22] (fun v i wr => ∃ k : Nat, k ≤ TX.size ∧ v = .int .i64 (rcSum TX k) ∧ i = .int .i64 (k : Int) ∧ Below w.heap.size w wr) (fun _ i _ => TX.size - (intOf i).toNat)
    case atStart => exact ⟨0, by omega, by rfl, by rfl, hbw.out⟩
    case round =>
      obtain ⟨k, hk, rfl, rfl, hbl⟩ := hrel
      have Hbl := Lib.hid hbl
      clear hbl
      obtain ⟨hq0, hq1⟩ := rcSum_bd TX k
      have hb1 := bat_lo TX k
      have hb2 := bat_hi TX k
      by_cases hlt : k < TX.size
      · have hsu : Hid (rcSum TX (k + 1) = (33 * rcSum TX k + bat TX k) % 99991) := Lib.hid rfl
        generalize rcSum TX k = q at *
        have a1 : IntKind.i64.wrap (33 * q) = 33 * q := IntWalk.i64_in _ (by omega)
        have a2 : IntKind.i64.wrap (33 * q + bat TX k) = 33 * q + bat TX k := IntWalk.i64_in _ (by omega)
        have a3 : (33 * q + bat TX k).tmod 99991 = (33 * q + bat TX k) % 99991 := Int.tmod_eq_emod_of_nonneg (by omega)
        go_wp2
        go_roundw
        case rel => exact ⟨k + 1, by omega, by rw [hsu.out], by go_num, Hbl.out⟩
        case measure => simp [intOf]; omega
      · obtain rfl : k = TX.size := by omega
        have k1 : ¬ 9223372036854775807 < TX.size + 1 := by omega
        have k2 : ¬ 9223372036854775807 < TX.size + 1 + (numS (rcSum TX TX.size).toNat).size := by omega
        have k3 : ¬ 9223372036854775807 < TX.size + 1 + (numS (rcSum TX TX.size).toNat).size + 1 := by omega
        go_wp2_with (go_at_call 60; refine (Hs.out _ Hbl.out).mono ?_; rintro e w9 ⟨rfl, hb9⟩)
        go_ret
        have e9 := hLn.out
        subst e9
        exact ⟨rfl, Hbl.out.trans (hb9.mono Hbl.out.size)⟩


set_option maxHeartbeats 1600000 in
theorem sRecordLine_t (x : Rcd) (w : World) (hs : Record_small 1048576 x) (htab : Tab w) (hp : recP x) :
    Calls Tryd.prog 16 #[.agg #[.int .i64 x.day, .string x.meth, .string x.touch, .int .i64 x.rows, .string x.note]] w fun e w' => e = .returned (.tuple #[.string (rcLine x), .bool true]) ∧ Below w.heap.size w w' := by
  have e1 := B_t hp
  have hb0 : Hid (Below w.heap.size w (w.alloc (.cells #[.int .i64 x.day, .string x.meth, .string x.touch, .int .i64 x.rows, .string x.note] 34))) := Lib.hid ((Below.refl _ _).alloc (Nat.le_refl _) _)
  have HG : Hid (∀ W, Calls Tryd.prog 62 #[.agg #[.int .i64 x.day, .string x.meth, .string x.touch, .int .i64 x.rows, .string x.note]] W fun e w' => e = .returned (.bool true) ∧ Below W.heap.size W w') := Lib.hid fun W => by have := l28Good_any x W hs; rw [e1] at this; exact this
  have HL : Hid (∀ W, Below w.heap.size w W → Calls Tryd.prog 63 #[.agg #[.int .i64 x.day, .string x.meth, .string x.touch, .int .i64 x.rows, .string x.note]] W fun e w' => e = .returned (.string (rcLine x)) ∧ Below W.heap.size W w') := Lib.hid fun W hb => l28Line_any x W hp
  clear hs hp htab e1
  go_enter Tryd.func16, Tryd.ntmps16
  go_wp2_with (first
    | (go_at_call 62; refine (HG.out _).mono ?_; rintro e w1 ⟨rfl, hb1⟩; have hbw := hb0.out.trans (hb1.mono hb0.out.size); have q0 := (hb1.cell (p := ⟨w.heap.size, 0, none⟩) (by simp)).trans (show _ = some _ from by simp [go_sem]; rfl); have q1 := (hb1.cell (p := ⟨w.heap.size, 1, none⟩) (by simp)).trans (show _ = some _ from by simp [go_sem]; rfl); have q2 := (hb1.cell (p := ⟨w.heap.size, 2, none⟩) (by simp)).trans (show _ = some _ from by simp [go_sem]; rfl); have q3 := (hb1.cell (p := ⟨w.heap.size, 3, none⟩) (by simp)).trans (show _ = some _ from by simp [go_sem]; rfl); have q4 := (hb1.cell (p := ⟨w.heap.size, 4, none⟩) (by simp)).trans (show _ = some _ from by simp [go_sem]; rfl))
    | (go_at_call 63; refine (HL.out w1 hbw).mono ?_; rintro e w2 ⟨rfl, hb2⟩))
  go_ret2
  exact ⟨rfl, hbw.trans (hb2.mono hbw.size)⟩
theorem sRecordLine_f (x : Rcd) (w : World) (hs : Record_small 1048576 x) (hp : ¬ recP x) :
    Calls Tryd.prog 16 #[.agg #[.int .i64 x.day, .string x.meth, .string x.touch, .int .i64 x.rows, .string x.note]] w fun e w' => e = .returned (.tuple #[.string ⟨#[]⟩, .bool false]) ∧ Below w.heap.size w w' := by
  have e1 := B_f hp
  have hb0 : Hid (Below w.heap.size w (w.alloc (.cells #[.int .i64 x.day, .string x.meth, .string x.touch, .int .i64 x.rows, .string x.note] 34))) := Lib.hid ((Below.refl _ _).alloc (Nat.le_refl _) _)
  have HG : Hid (∀ W, Calls Tryd.prog 62 #[.agg #[.int .i64 x.day, .string x.meth, .string x.touch, .int .i64 x.rows, .string x.note]] W fun e w' => e = .returned (.bool false) ∧ Below W.heap.size W w') := Lib.hid fun W => by have := l28Good_any x W hs; rw [e1] at this; exact this
  clear hs hp e1
  go_enter Tryd.func16, Tryd.ntmps16
  go_wp2_with (go_at_call 62; refine (HG.out _).mono ?_; rintro e w1 ⟨rfl, hb1⟩; have hbw := hb0.out.trans (hb1.mono hb0.out.size))
  go_ret2
  exact ⟨rfl, hbw⟩
set_option maxHeartbeats 1600000 in
theorem iRecordLine_t (x : Rcd) (w : World) (hs : Record_small 1048576 x) (htab : Tab w) (hp : recP x) :
    Calls Tryd.prog 18 #[.agg #[.int .i64 x.day, .string x.meth, .string x.touch, .int .i64 x.rows, .string x.note]] w fun e w' => e = .returned (.tuple #[.string (rcLine x), .bool true]) ∧ Below w.heap.size w w' := by
  have e1 := B_t hp
  have hb0 : Hid (Below w.heap.size w (w.alloc (.cells #[.int .i64 x.day, .string x.meth, .string x.touch, .int .i64 x.rows, .string x.note] 34))) := Lib.hid ((Below.refl _ _).alloc (Nat.le_refl _) _)
  have HG : Hid (∀ W, Calls Tryd.prog 64 #[.agg #[.int .i64 x.day, .string x.meth, .string x.touch, .int .i64 x.rows, .string x.note]] W fun e w' => e = .returned (.bool true) ∧ Below W.heap.size W w') := Lib.hid fun W => by have := iRecord_any x W hs; rw [e1] at this; exact this
  have HL : Hid (∀ W, Below w.heap.size w W → Calls Tryd.prog 65 #[.agg #[.int .i64 x.day, .string x.meth, .string x.touch, .int .i64 x.rows, .string x.note]] W fun e w' => e = .returned (.string (rcLine x)) ∧ Below W.heap.size W w') := Lib.hid fun W hb => recordLine_any x W hp (htab.later hb)
  clear hs hp htab e1
  go_enter Tryd.func18, Tryd.ntmps18
  go_wp2_with (first
    | (go_at_call 64; refine (HG.out _).mono ?_; rintro e w1 ⟨rfl, hb1⟩; have hbw := hb0.out.trans (hb1.mono hb0.out.size); have q0 := (hb1.cell (p := ⟨w.heap.size, 0, none⟩) (by simp)).trans (show _ = some _ from by simp [go_sem]; rfl); have q1 := (hb1.cell (p := ⟨w.heap.size, 1, none⟩) (by simp)).trans (show _ = some _ from by simp [go_sem]; rfl); have q2 := (hb1.cell (p := ⟨w.heap.size, 2, none⟩) (by simp)).trans (show _ = some _ from by simp [go_sem]; rfl); have q3 := (hb1.cell (p := ⟨w.heap.size, 3, none⟩) (by simp)).trans (show _ = some _ from by simp [go_sem]; rfl); have q4 := (hb1.cell (p := ⟨w.heap.size, 4, none⟩) (by simp)).trans (show _ = some _ from by simp [go_sem]; rfl))
    | (go_at_call 65; refine (HL.out w1 hbw).mono ?_; rintro e w2 ⟨rfl, hb2⟩))
  go_ret2
  exact ⟨rfl, hbw.trans (hb2.mono hbw.size)⟩
theorem iRecordLine_f (x : Rcd) (w : World) (hs : Record_small 1048576 x) (hp : ¬ recP x) :
    Calls Tryd.prog 18 #[.agg #[.int .i64 x.day, .string x.meth, .string x.touch, .int .i64 x.rows, .string x.note]] w fun e w' => e = .returned (.tuple #[.string ⟨#[]⟩, .bool false]) ∧ Below w.heap.size w w' := by
  have e1 := B_f hp
  have hb0 : Hid (Below w.heap.size w (w.alloc (.cells #[.int .i64 x.day, .string x.meth, .string x.touch, .int .i64 x.rows, .string x.note] 34))) := Lib.hid ((Below.refl _ _).alloc (Nat.le_refl _) _)
  have HG : Hid (∀ W, Calls Tryd.prog 64 #[.agg #[.int .i64 x.day, .string x.meth, .string x.touch, .int .i64 x.rows, .string x.note]] W fun e w' => e = .returned (.bool false) ∧ Below W.heap.size W w') := Lib.hid fun W => by have := iRecord_any x W hs; rw [e1] at this; exact this
  clear hs hp e1
  go_enter Tryd.func18, Tryd.ntmps18
  go_wp2_with (go_at_call 64; refine (HG.out _).mono ?_; rintro e w1 ⟨rfl, hb1⟩; have hbw := hb0.out.trans (hb1.mono hb0.out.size))
  go_ret2
  exact ⟨rfl, hbw⟩
end Go.Proofs.YtpedfjcidbopiaaDoor
