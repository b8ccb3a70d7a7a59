/-
  SpokenText of the program returns what the reference's returns, for all arguments, the library's tables as its text lays them.
-/
import Derived.Test.YtpedfjcidbopiaaDoorCardKit
import Derived.Test.YtpedfjcidbopiaaDoorSpoken
namespace Go.Proofs.YtpedfjcidbopiaaDoor
open Go.RowKit
set_option linter.unusedVariables false
set_option linter.unusedSimpArgs false
set_option maxRecDepth 100000

/-- The lines of the first k spoken words. -/
def spkTo (l : List Spk) : Nat → ByteArray
  | 0 => ⟨#[]⟩
  | k + 1 => spkTo l k ++ (((numS ((l.map Spk.row).getD k 0).toNat ++ ⟨#[32]⟩) ++ (l.map Spk.word).getD k ⟨#[]⟩) ++ ⟨#[10]⟩)
theorem spkTo_succ {l : List Spk} {k : Nat} (h : k < l.length) : spkTo l (k + 1) = spkTo l k ++ (((numS l[k].row.toNat ++ ⟨#[32]⟩) ++ l[k].word) ++ ⟨#[10]⟩) := by
  simp [spkTo, h]
theorem spoken_size {s : ByteArray} (h : spokenP s) : s.size ≤ 6 := by
  unfold spokenP spokenWords at h
  simp only [List.mem_cons, List.mem_nil_iff, or_false] at h
  rcases h with rfl | rfl | rfl | rfl | rfl <;> decide


theorem sSpokenText_f (l : List Spk) (A : Option Addr) (c : Nat) (w : World) (h : RdL w w.heap.size A 2 Spk.enc l) (hl : l.length ≤ 1048576) (hp : ¬ spokenLP l) :
    Calls Tryd.prog 11 #[.slice A l.length c] w fun e w' => e = .returned (.tuple #[.string ⟨#[]⟩, .bool false]) ∧ Below w.heap.size w w' := by
  have e1 := B_f hp
  have HG := Lib.hid (l26Good_any l A c w h hl)
  rw [e1] at HG
  clear h hp e1
  go_enter Tryd.func11, Tryd.ntmps11
  go_wp2_with (go_at_call 56; refine HG.out.mono ?_; rintro e w1 ⟨rfl, hb1⟩)
  go_ret2
  exact ⟨rfl, hb1⟩
set_option maxHeartbeats 1600000 in
theorem sSpokenText0_t (l : List Spk) (A : Option Addr) (c : Nat) (w : World) (h : RdL w w.heap.size A 2 Spk.enc l) (hl : l.length ≤ 1048576)  (hp : spokenLP l) :
    Calls Tryd.prog 11 #[.slice A l.length c] w fun e w' => e = .returned (.tuple #[.string (spkTo l l.length), .bool true]) ∧ Below w.heap.size w w' := by
  have H := Lib.hid h
  have HP := Lib.hid hp
  skip
  have e1 := B_t hp
  have hl63 : l.length ≤ 63 := hp.1
  have HG := Lib.hid (l26Good_any l A c w h hl)
  rw [e1] at HG
  clear h hp  e1
  go_enter Tryd.func11, Tryd.ntmps11
  go_wp2_with (go_at_call 56; refine HG.out.mono ?_; rintro e w1 ⟨rfl, hb1⟩; have HB1 := Lib.hid hb1; clear hb1)
  go_loopw [4, 12] (fun v i wr => ∃ (k : Nat) (S : ByteArray), k ≤ l.length ∧ i = .int .i64 k ∧ v = .string S ∧ Hid (S = spkTo l k) ∧ S.size ≤ 64 * k ∧ Below w.heap.size w wr) (fun _ i _ => l.length - (intOf i).toNat)
  case atStart => exact ⟨0, _, by omega, by rfl, rfl, Lib.hid rfl, by decide, HB1.out⟩
  case round =>
    obtain ⟨k, S, hk, rfl, rfl, hS, hsz, hbl⟩ := hrel
    have Hbl := Lib.hid hbl
    have hwz := hbl.size
    clear hbl
    by_cases hlt : k < l.length
    · have hsu := Lib.hid (spkTo_succ hlt)
      obtain ⟨⟨g1, g2⟩, g3, _⟩ := HP.out.2 k hlt
      have hw6 := spoken_size g3
      obtain ⟨g, off, hA, hg, hcell⟩ := H.out.at hlt
      have r0 := (Hbl.out.cell (p := ⟨g, off + k * 2, none⟩) hg).trans (hcell 0 _ rfl)
      have r1 := (Hbl.out.cell (p := ⟨g, off + k * 2 + 1, none⟩) hg).trans (hcell 1 _ rfl)
      subst hA
      clear hcell g3
      obtain ⟨r, hr⟩ := Int.eq_ofNat_of_zero_le g1
      rw [hr] at r0 g2
      have hsu2 := hsu.out
      rw [hr, Int.toNat_natCast] at hsu2
      generalize l[k].word = y at *
      have hr3 : r ≤ 3000 := by omega
      obtain ⟨NU, hNU⟩ : ∃ x, Hid (numS r = x) := ⟨_, Lib.hid rfl⟩
      have hn10 : NU.size ≤ 10 := by rw [← hNU.out]; exact numS_bd (by omega)
      rw [hNU.out] at hsu2
      have Hsu := Lib.hid hsu2
      have Hnum : Hid (∀ W, Below w.heap.size w W → Calls Tryd.prog 57 #[.int .i64 (r : Int)] W fun e w' => ∃ v, e = .returned v ∧ (v = .string NU ∧ Below W.heap.size W w')) := Lib.hid fun W hb => by rw [← hNU.out]; exact (l1Num_any r r W (Nat.le_refl _) (by omega)).mono fun e w' h => ⟨_, h.1, rfl, h.2⟩
      clear hsu hsu2 hr g1 g2
      go_upto_region 7 with fail
      obtain ⟨W5, hW5, C0, C1, HB5, hs5⟩ : ∃ W5 : World, Hid (wr.alloc (.cells #[.int .i64 (r : Int), .string y] 97) = W5) ∧ W5.cell? ⟨wr.heap.size, 0, none⟩ = some (.int .i64 (r : Int)) ∧ W5.cell? ⟨wr.heap.size, 1, none⟩ = some (.string y) ∧ Hid (Below w.heap.size w W5) ∧ wr.heap.size < W5.heap.size :=
        ⟨_, Lib.hid rfl, by rw [World.cell?_alloc_new]; rfl, by rw [World.cell?_alloc_new]; rfl, Lib.hid (Hbl.out.alloc hwz _), by simp⟩
      rw [hW5.out]
      clear r0 r1 hW5
      have hs1 : (NU ++ (⟨#[32]⟩ : ByteArray)).size = NU.size + 1 := by simp [ByteArray.size_append]; rfl
      have hs2 : ((NU ++ (⟨#[32]⟩ : ByteArray)) ++ y).size = NU.size + 1 + y.size := by rw [ByteArray.size_append, hs1]
      have hs3 : (((NU ++ (⟨#[32]⟩ : ByteArray)) ++ y) ++ (⟨#[10]⟩ : ByteArray)).size = NU.size + 1 + y.size + 1 := by rw [ByteArray.size_append, hs2]; rfl
      have k1 : ¬ 9223372036854775807 < NU.size + 1 := by omega
      have k2 : ¬ 9223372036854775807 < NU.size + 1 + y.size := by omega
      have k3 : ¬ 9223372036854775807 < NU.size + 1 + y.size + 1 := by omega
      have k4 : ¬ 9223372036854775807 < S.size + (NU.size + 1 + y.size + 1) := by omega
      go_region_law (refine step_callsX (by rfl) 57 (by rfl) #[.int .i64 (r : Int)] (by go_simp) (Hnum.out _ HB5.out.drew) ?_; rintro v w2 ⟨rfl, hb2⟩; have q1 := (hb2.cell (p := ⟨wr.heap.size, 1, none⟩) hs5).trans C1)
      all_goals
        clear q1 C0 C1
        go_wp2
        go_roundw
        case rel => exact ⟨k + 1, S ++ (((NU ++ ⟨#[32]⟩) ++ y) ++ ⟨#[10]⟩), by omega, by go_num, rfl, Lib.hid (by rw [Hsu.out, ← hS.out]), by rw [ByteArray.size_append, hs3]; omega, HB5.out.drew.trans (hb2.mono HB5.out.size)⟩
        case measure => simp [intOf]; omega
    · obtain rfl : k = l.length := by omega
      go_wp2
      go_ret2
      exact ⟨by rw [← hS.out]; rfl, Hbl.out⟩
theorem sSpokenText_t (l : List Spk) (A : Option Addr) (c : Nat) (w : World) (h : RdL w w.heap.size A 2 Spk.enc l) (hl : l.length ≤ 1048576) (htab : Tab w) (hp : spokenLP l) :
    Calls Tryd.prog 11 #[.slice A l.length c] w fun e w' => e = .returned (.tuple #[.string (spkTo l l.length), .bool true]) ∧ Below w.heap.size w w' := sSpokenText0_t l A c w h hl hp
theorem iSpokenText_f (l : List Spk) (A : Option Addr) (c : Nat) (w : World) (h : RdL w w.heap.size A 2 Spk.enc l) (hl : l.length ≤ 1048576) (hp : ¬ spokenLP l) :
    Calls Tryd.prog 13 #[.slice A l.length c] w fun e w' => e = .returned (.tuple #[.string ⟨#[]⟩, .bool false]) ∧ Below w.heap.size w w' := by
  have e1 := B_f hp
  have HG := Lib.hid (goodSpoken_any l A c w h hl)
  rw [e1] at HG
  clear h hp e1
  go_enter Tryd.func13, Tryd.ntmps13
  go_wp2_with (go_at_call 59; refine HG.out.mono ?_; rintro e w1 ⟨rfl, hb1⟩)
  go_ret2
  exact ⟨rfl, hb1⟩
set_option maxHeartbeats 1600000 in
theorem iSpokenText_t (l : List Spk) (A : Option Addr) (c : Nat) (w : World) (h : RdL w w.heap.size A 2 Spk.enc l) (hl : l.length ≤ 1048576) (htab : Tab w) (hp : spokenLP l) :
    Calls Tryd.prog 13 #[.slice A l.length c] w fun e w' => e = .returned (.tuple #[.string (spkTo l l.length), .bool true]) ∧ Below w.heap.size w w' := by
  have H := Lib.hid h
  have HP := Lib.hid hp
  have HT := Lib.hid htab
  have e1 := B_t hp
  have hl63 : l.length ≤ 63 := hp.1
  have HG := Lib.hid (goodSpoken_any l A c w h hl)
  rw [e1] at HG
  clear h hp htab e1
  go_enter Tryd.func13, Tryd.ntmps13
  go_wp2_with (go_at_call 59; refine HG.out.mono ?_; rintro e w1 ⟨rfl, hb1⟩; have HB1 := Lib.hid hb1; clear hb1)
  go_loopw [4, 12] (fun v i wr => ∃ (k : Nat) (S : ByteArray), k ≤ l.length ∧ i = .int .i64 k ∧ v = .string S ∧ Hid (S = spkTo l k) ∧ S.size ≤ 64 * k ∧ Below w.heap.size w wr) (fun _ i _ => l.length - (intOf i).toNat)
  case atStart => exact ⟨0, _, by omega, by rfl, rfl, Lib.hid rfl, by decide, HB1.out⟩
  case round =>
    obtain ⟨k, S, hk, rfl, rfl, hS, hsz, hbl⟩ := hrel
    have Hbl := Lib.hid hbl
    have hwz := hbl.size
    clear hbl
    by_cases hlt : k < l.length
    · have hsu := Lib.hid (spkTo_succ hlt)
      obtain ⟨⟨g1, g2⟩, g3, _⟩ := HP.out.2 k hlt
      have hw6 := spoken_size g3
      obtain ⟨g, off, hA, hg, hcell⟩ := H.out.at hlt
      have r0 := (Hbl.out.cell (p := ⟨g, off + k * 2, none⟩) hg).trans (hcell 0 _ rfl)
      have r1 := (Hbl.out.cell (p := ⟨g, off + k * 2 + 1, none⟩) hg).trans (hcell 1 _ rfl)
      subst hA
      clear hcell g3
      obtain ⟨r, hr⟩ := Int.eq_ofNat_of_zero_le g1
      rw [hr] at r0 g2
      have hsu2 := hsu.out
      rw [hr, Int.toNat_natCast] at hsu2
      generalize l[k].word = y at *
      have hr3 : r ≤ 3000 := by omega
      obtain ⟨NU, hNU⟩ : ∃ x, Hid (numS r = x) := ⟨_, Lib.hid rfl⟩
      have hn10 : NU.size ≤ 10 := by rw [← hNU.out]; exact numS_bd (by omega)
      rw [hNU.out] at hsu2
      have Hsu := Lib.hid hsu2
      have Hnum : Hid (∀ W, Below w.heap.size w W → Calls Tryd.prog 60 #[.int .i64 (r : Int)] W fun e w' => ∃ v, e = .returned v ∧ (v = .string NU ∧ Below W.heap.size W w')) := Lib.hid fun W hb => by rw [← hNU.out]; exact (decimal_any r W (by omega) (HT.out.later hb)).mono fun e w' h => ⟨_, h.1, rfl, h.2⟩
      clear hsu hsu2 hr g1 g2
      go_upto_region 7 with fail
      obtain ⟨W5, hW5, C0, C1, HB5, hs5⟩ : ∃ W5 : World, Hid (wr.alloc (.cells #[.int .i64 (r : Int), .string y] 97) = W5) ∧ W5.cell? ⟨wr.heap.size, 0, none⟩ = some (.int .i64 (r : Int)) ∧ W5.cell? ⟨wr.heap.size, 1, none⟩ = some (.string y) ∧ Hid (Below w.heap.size w W5) ∧ wr.heap.size < W5.heap.size :=
        ⟨_, Lib.hid rfl, by rw [World.cell?_alloc_new]; rfl, by rw [World.cell?_alloc_new]; rfl, Lib.hid (Hbl.out.alloc hwz _), by simp⟩
      rw [hW5.out]
      clear r0 r1 hW5
      have hs1 : (NU ++ (⟨#[32]⟩ : ByteArray)).size = NU.size + 1 := by simp [ByteArray.size_append]; rfl
      have hs2 : ((NU ++ (⟨#[32]⟩ : ByteArray)) ++ y).size = NU.size + 1 + y.size := by rw [ByteArray.size_append, hs1]
      have hs3 : (((NU ++ (⟨#[32]⟩ : ByteArray)) ++ y) ++ (⟨#[10]⟩ : ByteArray)).size = NU.size + 1 + y.size + 1 := by rw [ByteArray.size_append, hs2]; rfl
      have k1 : ¬ 9223372036854775807 < NU.size + 1 := by omega
      have k2 : ¬ 9223372036854775807 < NU.size + 1 + y.size := by omega
      have k3 : ¬ 9223372036854775807 < NU.size + 1 + y.size + 1 := by omega
      have k4 : ¬ 9223372036854775807 < S.size + (NU.size + 1 + y.size + 1) := by omega
      go_region_law (refine step_callsX (by rfl) 60 (by rfl) #[.int .i64 (r : Int)] (by go_simp) (Hnum.out _ HB5.out.drew) ?_; rintro v w2 ⟨rfl, hb2⟩; have q1 := (hb2.cell (p := ⟨wr.heap.size, 1, none⟩) hs5).trans C1)
      all_goals
        clear q1 C0 C1
        go_wp2
        go_roundw
        case rel => exact ⟨k + 1, S ++ (((NU ++ ⟨#[32]⟩) ++ y) ++ ⟨#[10]⟩), by omega, by go_num, rfl, Lib.hid (by rw [Hsu.out, ← hS.out]), by rw [ByteArray.size_append, hs3]; omega, HB5.out.drew.trans (hb2.mono HB5.out.size)⟩
        case measure => simp [intOf]; omega
    · obtain rfl : k = l.length := by omega
      go_wp2
      go_ret2
      exact ⟨by rw [← hS.out]; rfl, Hbl.out⟩
end Go.Proofs.YtpedfjcidbopiaaDoor
