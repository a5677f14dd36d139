/-
  The law FnUnits. No conditions beyond the listed variables' places.
-/
import Derived.Test.YtpbflceekikbiaaDoorWL03
namespace Go.Proofs.YtpbflceekikbiaaDoor
open Go.ChangeShapes Go.WideShapes Go.ChangeAt Go.RowKit Go.Proofs.YtpbflceekikbiaaDoor.Dec

theorem big8 : readI [57, 50, 50, 51, 51, 55, 50, 48, 51, 54, 56, 53, 52, 55, 55, 53, 56, 48, 56] = (0, false) := read_no fun h => absurd h.2 (by decide +kernel)
theorem amt_c1 : readAmt ⟨#[53, 48, 48, 109]⟩ = (500, 0) := by
  have := read_parts 500 [109] 1 (by decide) (by decide) (by decide) unit_m (by decide) (by decide)
  rw [dec_by (l := [53, 48, 48]) (by decide) (by decide) (by decide +kernel)] at this
  exact this
theorem amt_c2 : readAmt ⟨#[50, 71, 105]⟩ = (2147483648000, 0) := by
  have := read_parts 2 [71, 105] 1073741824000 (by decide) (by decide) (by decide) unit_3 (by decide) (by decide)
  rw [dec_by (l := [50]) (by decide) (by decide) (by decide +kernel)] at this
  exact this
theorem unit_k : unitR ⟨#[107]⟩ = (1000000, true) := by decide +kernel
theorem amt_c3 : readAmt ⟨#[49, 107]⟩ = (1000000, 0) := by
  have := read_parts 1 [107] 1000000 (by decide) (by decide) (by decide) unit_k (by decide) (by decide)
  rw [dec_by (l := [49]) (by decide) (by decide) (by decide +kernel)] at this
  exact this
theorem amt_c5 : readAmt ⟨#[57, 50, 50, 51, 51, 55, 50, 48, 51, 54, 56, 53, 52, 55, 55, 53, 56, 48, 55, 109]⟩ = (9223372036854775807, 0) := by
  have := read_parts 9223372036854775807 [109] 1 (by decide) (by decide) (by decide) unit_m (by decide) (by decide)
  rw [dec_by (l := [57, 50, 50, 51, 51, 55, 50, 48, 51, 54, 56, 53, 52, 55, 55, 53, 56, 48, 55]) (by decide) (by decide) (by decide +kernel)] at this
  exact this
theorem amt_c4 : readAmt ⟨#[57, 50, 50, 51, 51, 55, 50, 48, 51, 54, 56, 53, 52, 55, 55, 53, 56, 48, 56, 109]⟩ = (0, 2) := by
  have hd : dn [57, 50, 50, 51, 51, 55, 50, 48, 51, 54, 56, 53, 52, 55, 55, 53, 56, 48, 56, 109] = 19 := by decide +kernel
  have ht : ([57, 50, 50, 51, 51, 55, 50, 48, 51, 54, 56, 53, 52, 55, 55, 53, 56, 48, 56, 109] : List UInt8).take 19 = [57, 50, 50, 51, 51, 55, 50, 48, 51, 54, 56, 53, 52, 55, 55, 53, 56, 48, 56] := by decide +kernel
  have he : (⟨#[57, 50, 50, 51, 51, 55, 50, 48, 51, 54, 56, 53, 52, 55, 55, 53, 56, 48, 56, 109]⟩ : ByteArray).extract 19 20 = ⟨#[109]⟩ := by decide +kernel
  have hz : headZ [57, 50, 50, 51, 51, 55, 50, 48, 51, 54, 56, 53, 52, 55, 55, 53, 56, 48, 56, 109] = false := by decide +kernel
  have hl : (⟨#[57, 50, 50, 51, 51, 55, 50, 48, 51, 54, 56, 53, 52, 55, 55, 53, 56, 48, 56, 109]⟩ : ByteArray).size = 20 := by decide +kernel
  unfold readAmt
  rw [hl]
  show (if 40 < 20 ∨ dn [57, 50, 50, 51, 51, 55, 50, 48, 51, 54, 56, 53, 52, 55, 55, 53, 56, 48, 56, 109] = 0 ∨ (1 < dn [57, 50, 50, 51, 51, 55, 50, 48, 51, 54, 56, 53, 52, 55, 55, 53, 56, 48, 56, 109] ∧ headZ [57, 50, 50, 51, 51, 55, 50, 48, 51, 54, 56, 53, 52, 55, 55, 53, 56, 48, 56, 109] = true) ∨ (unitR ((⟨#[57, 50, 50, 51, 51, 55, 50, 48, 51, 54, 56, 53, 52, 55, 55, 53, 56, 48, 56, 109]⟩ : ByteArray).extract (dn [57, 50, 50, 51, 51, 55, 50, 48, 51, 54, 56, 53, 52, 55, 55, 53, 56, 48, 56, 109]) 20)).2 = false then ((0, 1) : Int × Int) else if (readI (([57, 50, 50, 51, 51, 55, 50, 48, 51, 54, 56, 53, 52, 55, 55, 53, 56, 48, 56, 109] : List UInt8).take (dn [57, 50, 50, 51, 51, 55, 50, 48, 51, 54, 56, 53, 52, 55, 55, 53, 56, 48, 56, 109]))).2 = false ∨ mulB (readI (([57, 50, 50, 51, 51, 55, 50, 48, 51, 54, 56, 53, 52, 55, 55, 53, 56, 48, 56, 109] : List UInt8).take (dn [57, 50, 50, 51, 51, 55, 50, 48, 51, 54, 56, 53, 52, 55, 55, 53, 56, 48, 56, 109]))).1 (unitR ((⟨#[57, 50, 50, 51, 51, 55, 50, 48, 51, 54, 56, 53, 52, 55, 55, 53, 56, 48, 56, 109]⟩ : ByteArray).extract (dn [57, 50, 50, 51, 51, 55, 50, 48, 51, 54, 56, 53, 52, 55, 55, 53, 56, 48, 56, 109]) 20)).1 = false then (0, 2) else (mulV (readI (([57, 50, 50, 51, 51, 55, 50, 48, 51, 54, 56, 53, 52, 55, 55, 53, 56, 48, 56, 109] : List UInt8).take (dn [57, 50, 50, 51, 51, 55, 50, 48, 51, 54, 56, 53, 52, 55, 55, 53, 56, 48, 56, 109]))).1 (unitR ((⟨#[57, 50, 50, 51, 51, 55, 50, 48, 51, 54, 56, 53, 52, 55, 55, 53, 56, 48, 56, 109]⟩ : ByteArray).extract (dn [57, 50, 50, 51, 51, 55, 50, 48, 51, 54, 56, 53, 52, 55, 55, 53, 56, 48, 56, 109]) 20)).1, 0)) = (0, 2)
  rw [hd, ht, he, hz, unit_m, big8]
  rfl
theorem amt_c6 : readAmt ⟨#[49, 46, 53]⟩ = (0, 1) := by
  have hd : dn [49, 46, 53] = 1 := by decide +kernel
  have he : (⟨#[49, 46, 53]⟩ : ByteArray).extract 1 3 = ⟨#[46, 53]⟩ := by decide +kernel
  have hu : (unitR ⟨#[46, 53]⟩).2 = false := by decide +kernel
  unfold readAmt
  refine if_pos (.inr (.inr (.inr ?_)))
  show (unitR ((⟨#[49, 46, 53]⟩ : ByteArray).extract (dn [49, 46, 53]) 3)).2 = false
  rw [hd, he, hu]
theorem split_cat {s : ByteArray} {d : Nat} (_h : d ≤ s.size) : s.extract 0 d ++ s.extract d s.size = s := by
  apply bs_eq
  rw [ByteArray.data_append, Array.toList_append, ByteArray.data_extract, ByteArray.data_extract, Array.toList_extract, Array.toList_extract]
  simp only [List.extract, Nat.sub_zero, List.drop_zero]
  rw [List.take_of_length_le (l := List.drop d s.data.toList) (by simp)]
  exact List.take_append_drop _ _
theorem code_below {w w' : World} {a : Option Addr} {len : Nat} (h : Code8 w a len) (hb : Below w.heap.size w w') : Code8 w' a len := fun j hj => by
  obtain ⟨b, off, x, e, hc, h0⟩ := h j hj
  exact ⟨b, off, x, e, (grown_below (r := none) hb).cell hc (by simp), h0⟩

theorem walk_FnUnits (a : Option Addr) (len cap : Nat) (zs : List Int) (w : World) (hz : IsRow .u8 w a len cap zs) (hSt : Tab w ∧ Errs w) : Calls Tryd.prog 13 #[.slice a len cap] w fun e w' => e = .returned (.bool true) ∧ Below w.heap.size w w' := by
  obtain ⟨hT, hE⟩ := hSt
  have HT := Lib.hid hT
  have HE := Lib.hid hE
  clear hT hE
  have HC := Lib.hid (code_of hz)
  have hm : len ≤ 9223372036854775807 := by
    rcases hz with ⟨_, rfl, _⟩ | ⟨x, _, hl, hm, _⟩
    · omega
    · unfold maxLen at hm; omega
  clear hz
  by_cases hb : (1048576 : Int) < (len : Int)
  · have hd : decide ((1048576 : Int) < (len : Int)) = true := by simpa using hb
    go_enter Tryd.func13, Tryd.ntmps13
    go_wp2_with (go_at_call 25; refine (l_big _ _ _ _ hm).mono ?_; rintro e w' ⟨rfl, rfl⟩)
    go_ret
    exact ⟨rfl, Below.refl _ _⟩
  have Hc1 : Hid (∀ w, Tab w → Errs w → Calls Tryd.prog 35 #[.string ⟨#[53, 48, 48, 109]⟩] w fun e w' => e = .returned (.tuple #[.int .i64 500, .int .i64 0]) ∧ Below w.heap.size w w') := fun w h1 h2 => by
    have := i_ReadAmount ⟨#[53, 48, 48, 109]⟩ (by decide) w h1 h2
    rw [amt_c1] at this
    exact this
  have Hc2 : Hid (∀ w, Tab w → Errs w → Calls Tryd.prog 35 #[.string ⟨#[50, 71, 105]⟩] w fun e w' => e = .returned (.tuple #[.int .i64 2147483648000, .int .i64 0]) ∧ Below w.heap.size w w') := fun w h1 h2 => by
    have := i_ReadAmount ⟨#[50, 71, 105]⟩ (by decide) w h1 h2
    rw [amt_c2] at this
    exact this
  have Hc3 : Hid (∀ w, Tab w → Errs w → Calls Tryd.prog 35 #[.string ⟨#[49, 107]⟩] w fun e w' => e = .returned (.tuple #[.int .i64 1000000, .int .i64 0]) ∧ Below w.heap.size w w') := fun w h1 h2 => by
    have := i_ReadAmount ⟨#[49, 107]⟩ (by decide) w h1 h2
    rw [amt_c3] at this
    exact this
  have Hc4 : Hid (∀ w, Tab w → Errs w → Calls Tryd.prog 35 #[.string ⟨#[57, 50, 50, 51, 51, 55, 50, 48, 51, 54, 56, 53, 52, 55, 55, 53, 56, 48, 56, 109]⟩] w fun e w' => e = .returned (.tuple #[.int .i64 0, .int .i64 2]) ∧ Below w.heap.size w w') := fun w h1 h2 => by
    have := i_ReadAmount ⟨#[57, 50, 50, 51, 51, 55, 50, 48, 51, 54, 56, 53, 52, 55, 55, 53, 56, 48, 56, 109]⟩ (by decide) w h1 h2
    rw [amt_c4] at this
    exact this
  have Hc5 : Hid (∀ w, Tab w → Errs w → Calls Tryd.prog 35 #[.string ⟨#[57, 50, 50, 51, 51, 55, 50, 48, 51, 54, 56, 53, 52, 55, 55, 53, 56, 48, 55, 109]⟩] w fun e w' => e = .returned (.tuple #[.int .i64 9223372036854775807, .int .i64 0]) ∧ Below w.heap.size w w') := fun w h1 h2 => by
    have := i_ReadAmount ⟨#[57, 50, 50, 51, 51, 55, 50, 48, 51, 54, 56, 53, 52, 55, 55, 53, 56, 48, 55, 109]⟩ (by decide) w h1 h2
    rw [amt_c5] at this
    exact this
  have Hc6 : Hid (∀ w, Tab w → Errs w → Calls Tryd.prog 35 #[.string ⟨#[49, 46, 53]⟩] w fun e w' => e = .returned (.tuple #[.int .i64 0, .int .i64 1]) ∧ Below w.heap.size w w') := fun w h1 h2 => by
    have := i_ReadAmount ⟨#[49, 46, 53]⟩ (by decide) w h1 h2
    rw [amt_c6] at this
    exact this
  have HS : Hid (∀ (s : ByteArray) w, s.size ≤ 61 → Calls Tryd.prog 41 #[.string s] w fun e w' => ∃ x y : ByteArray, e = .returned (.tuple #[.string x, .string y]) ∧ x ++ y = s ∧ ¬ 9223372036854775807 < x.size + y.size ∧ Below w.heap.size w w') := fun s w h =>
    (i_SplitAmount s (by omega) w).mono fun _ _ q => ⟨_, _, q.1, split_cat (by simpa using dn_le s.data.toList), by
      rw [← ByteArray.size_append, split_cat (by simpa using dn_le s.data.toList)]; omega, q.2⟩
  have HA : Hid (∀ (s : ByteArray), s.size ≤ 61 → ∃ x y : Int, (∀ w, Tab w → Errs w → Calls Tryd.prog 35 #[.string s] w fun e w' => e = .returned (.tuple #[.int .i64 x, .int .i64 y]) ∧ Below w.heap.size w w') ∧ ∀ w, Calls Tryd.prog 34 #[.string s] w fun e w' => e = .returned (.tuple #[.int .i64 x, .int .i64 y]) ∧ Below w.heap.size w w') := fun s h => ⟨_, _, fun w h1 h2 => i_ReadAmount s (by omega) w h1 h2, fun w => s_ReadAmount s (by omega) w⟩
  have hd0 : decide ((1048576 : Int) < (len : Int)) = false := by simpa using hb
  have hm2 : len ≤ 1048576 := by omega
  go_enter Tryd.func13, Tryd.ntmps13
  go_wp2_with (go_at_call 25; refine (l_big _ _ _ _ hm).mono ?_; rintro e w' ⟨rfl, rfl⟩)
  refine (Hc1.out _ HT.out HE.out).mono ?_
  rintro e w1 ⟨rfl, hg1⟩
  go_wp2_with fail
  refine (Hc2.out _ (HT.out.below hg1) (HE.out.below hg1)).mono ?_
  rintro e w2 ⟨rfl, hb2⟩
  have hg2 := hg1.trans (hb2.mono hg1.size)
  clear hg1 hb2
  go_wp2_with fail
  refine (Hc3.out _ (HT.out.below hg2) (HE.out.below hg2)).mono ?_
  rintro e w3 ⟨rfl, hb3⟩
  have hg3 := hg2.trans (hb3.mono hg2.size)
  clear hg2 hb3
  go_wp2_with fail
  refine (Hc4.out _ (HT.out.below hg3) (HE.out.below hg3)).mono ?_
  rintro e w4 ⟨rfl, hb4⟩
  have hg4 := hg3.trans (hb4.mono hg3.size)
  clear hg3 hb4
  go_wp2_with fail
  refine (Hc5.out _ (HT.out.below hg4) (HE.out.below hg4)).mono ?_
  rintro e w5 ⟨rfl, hb5⟩
  have hg5 := hg4.trans (hb5.mono hg4.size)
  clear hg4 hb5
  go_wp2_with fail
  refine (Hc6.out _ (HT.out.below hg5) (HE.out.below hg5)).mono ?_
  rintro e w6 ⟨rfl, hb6⟩
  have hg6 := hg5.trans (hb6.mono hg5.size)
  clear hg5 hb6
  go_wp2_with fail
  have HC6 := Lib.hid (code_below HC.out hg6)
  refine (s_DrawReadAmount w6 a len cap hm2 HC6.out).mono ?_
  rintro e w7 ⟨T, rfl, hTs, hb7⟩
  have hg7 := hg6.trans (hb7.mono hg6.size)
  obtain ⟨x, y, HAI, HAS⟩ := HA.out T hTs
  have HAI := Lib.hid HAI
  have HAS := Lib.hid HAS
  have HTs := Lib.hid hTs
  clear hTs hg6 hb7
  go_wp2_with fail
  refine (HAI.out _ (HT.out.below hg7) (HE.out.below hg7)).mono ?_
  rintro e w8 ⟨rfl, hb8⟩
  have hg8 := hg7.trans (hb8.mono hg7.size)
  clear hg7 hb8
  go_wp2_with fail
  refine (HAS.out _).mono ?_
  rintro e w9 ⟨rfl, hb9⟩
  have hg9 := hg8.trans (hb9.mono hg8.size)
  clear hg8 hb9
  go_wp2_with fail
  refine (HS.out T _ HTs.out).mono ?_
  rintro e w10 ⟨p, q, rfl, hcat, hsz, hb10⟩
  have hg10 := hg9.trans (hb10.mono hg9.size)
  clear hg9 hb10
  go_wp2_with fail
  refine (i_Suffixes _).mono ?_
  rintro e w11 ⟨rfl, _, hb11⟩
  go_wp2_with fail
  go_ret
  exact ⟨rfl, hg10.trans (hb11.mono hg10.size)⟩
end Go.Proofs.YtpbflceekikbiaaDoor
