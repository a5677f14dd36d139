/-
  NormalAmount (both sides) and its law. No conditions beyond the listed variables' places.
-/
import Derived.Test.YtpbflceekikbiaaDoorWReadAmt
import Derived.Test.YtpbflceekikbiaaDoorWAmt
namespace Go.Proofs.YtpbflceekikbiaaDoor
open Go.ChangeShapes Go.WideShapes Go.ChangeAt Go.RowKit Go.Proofs.YtpbflceekikbiaaDoor.Dec

theorem mulV_b {a b : Int} (_ha : 0 ≤ a) (_hb : 0 ≤ b) : 0 ≤ mulV a b ∧ mulV a b ≤ 9223372036854775807 := by
  unfold mulV
  split
  · rename_i h
    exact ⟨Int.mul_nonneg h.1 h.2.1, h.2.2⟩
  · decide
theorem readAmt_b (s : ByteArray) : 0 ≤ (readAmt s).1 ∧ (readAmt s).1 ≤ 9223372036854775807 := by
  unfold readAmt
  split
  · decide
  split
  · decide
  · exact mulV_b (readI_b _).1 (unit_b _).1
def normAmt (s : ByteArray) : ByteArray × Int := if (readAmt s).2 ≠ 0 then (⟨#[]⟩, (readAmt s).2) else (⟨(amtL (readAmt s).1).toArray⟩, 0)
theorem ret_na {a : ByteArray} {b : Int} {r : ByteArray × Int} (h : r = (a, b)) : Ending.returned (.tuple #[.string a, .int .i64 b]) = .returned (.tuple #[.string r.1, .int .i64 r.2]) := by rw [h]
theorem s_NormalAmount (a : ByteArray) (ha : a.size ≤ 2147483648) (w : World) : Calls Tryd.prog 36 #[.string a] w fun e w' => e = .returned (.tuple #[.string (normAmt a).1, .int .i64 (normAmt a).2]) ∧ Below w.heap.size w w' := by
  obtain ⟨R, hR⟩ : ∃ R, normAmt a = R := ⟨_, rfl⟩
  rw [hR]
  obtain ⟨x, c, hx⟩ : ∃ x c, readAmt a = (x, c) := ⟨_, _, rfl⟩
  have hxb := readAmt_b a
  rw [hx] at hxb
  obtain ⟨hx0, hx1⟩ := hxb
  have HA : Hid (∀ w, Calls Tryd.prog 34 #[.string a] w fun e w' => e = .returned (.tuple #[.int .i64 x, .int .i64 c]) ∧ Below w.heap.size w w') := fun w => by
    have := s_ReadAmount a ha w
    rw [hx] at this
    exact this
  clear ha
  by_cases hc : c = 0
  case neg =>
    have HU : Hid (R = (⟨#[]⟩, c)) := by
      rw [← hR]
      unfold normAmt
      rw [hx, if_pos hc]
      rfl
    have hc' : (c != 0) = true := bne_iff_ne.2 hc
    clear hR hx hc hx0 hx1
    go_enter Tryd.func36, Tryd.ntmps36
    go_wp2_with fail
    refine (HA.out _).mono ?_
    rintro e w1 ⟨rfl, hb1⟩
    go_wp2_with fail
    go_ret2
    exact ⟨ret_na HU.out, hb1⟩
  subst hc
  obtain ⟨T, hT⟩ : ∃ T : ByteArray, (⟨(amtL x).toArray⟩ : ByteArray) = T := ⟨_, rfl⟩
  have HU : Hid (R = (T, 0)) := by
    rw [← hR]
    unfold normAmt
    rw [hx, if_neg (by simp), hT]
    rfl
  have HD : Hid (∀ w, Calls Tryd.prog 19 #[.int .i64 x] w fun e w' => e = .returned (.string T) ∧ Below w.heap.size w w') := fun w => by
    have := s_AmountText x (by simp only [] at hx0 hx1; omega) w
    rw [hT] at this
    exact this
  clear hR hx hT hx0 hx1
  case pos =>
    go_enter Tryd.func36, Tryd.ntmps36
    go_wp2_with fail
    refine (HA.out _).mono ?_
    rintro e w1 ⟨rfl, hb1⟩
    go_wp2_with fail
    refine (HD.out _).mono ?_
    rintro e w2 ⟨rfl, hb2⟩
    go_wp2_with fail
    go_ret2
    exact ⟨ret_na HU.out, hb1.trans (hb2.mono hb1.size)⟩

theorem i_NormalAmount (a : ByteArray) (ha : a.size ≤ 2147483648) (w : World) (hT : Tab w) (hE : Errs w) : Calls Tryd.prog 37 #[.string a] w fun e w' => e = .returned (.tuple #[.string (normAmt a).1, .int .i64 (normAmt a).2]) ∧ Below w.heap.size w w' := by
  have HT := Lib.hid hT
  have HE := Lib.hid hE
  clear hT hE
  obtain ⟨R, hR⟩ : ∃ R, normAmt a = R := ⟨_, rfl⟩
  rw [hR]
  obtain ⟨x, c, hx⟩ : ∃ x c, readAmt a = (x, c) := ⟨_, _, rfl⟩
  have hxb := readAmt_b a
  rw [hx] at hxb
  obtain ⟨hx0, hx1⟩ := hxb
  have HA : Hid (∀ w, Tab w → Errs w → Calls Tryd.prog 35 #[.string a] w fun e w' => e = .returned (.tuple #[.int .i64 x, .int .i64 c]) ∧ Below w.heap.size w w') := fun w h1 h2 => by
    have := i_ReadAmount a ha w h1 h2
    rw [hx] at this
    exact this
  clear ha
  by_cases hc : c = 0
  case neg =>
    have HU : Hid (R = (⟨#[]⟩, c)) := by
      rw [← hR]
      unfold normAmt
      rw [hx, if_pos hc]
      rfl
    have hc' : (c != 0) = true := bne_iff_ne.2 hc
    clear hR hx hc hx0 hx1
    go_enter Tryd.func37, Tryd.ntmps37
    go_wp2_with fail
    refine (HA.out _ HT.out HE.out).mono ?_
    rintro e w1 ⟨rfl, hb1⟩
    go_wp2_with fail
    go_ret2
    exact ⟨ret_na HU.out, hb1⟩
  subst hc
  obtain ⟨T, hT⟩ : ∃ T : ByteArray, (⟨(amtL x).toArray⟩ : ByteArray) = T := ⟨_, rfl⟩
  have HU : Hid (R = (T, 0)) := by
    rw [← hR]
    unfold normAmt
    rw [hx, if_neg (by simp), hT]
    rfl
  have HD : Hid (∀ w, Tab w → Calls Tryd.prog 20 #[.int .i64 x] w fun e w' => e = .returned (.string T) ∧ Below w.heap.size w w') := fun w h1 => by
    have := i_AmountText x (by simp only [] at hx0 hx1; omega) w h1
    rw [hT] at this
    exact this
  clear hR hx hT hx0 hx1
  case pos =>
    go_enter Tryd.func37, Tryd.ntmps37
    go_wp2_with fail
    refine (HA.out _ HT.out HE.out).mono ?_
    rintro e w1 ⟨rfl, hb1⟩
    go_wp2_with fail
    refine (HD.out _ (HT.out.below hb1)).mono ?_
    rintro e w2 ⟨rfl, hb2⟩
    go_wp2_with fail
    go_ret2
    exact ⟨ret_na HU.out, hb1.trans (hb2.mono hb1.size)⟩

theorem walk_FnExactNormalAmount (a : ByteArray) (w : World) (_ha : a.size ≤ maxLen) (hSt : Tab w ∧ Errs w) : Calls Tryd.prog 11 #[.string a] w fun e w' => e = .returned (.bool true) ∧ Below w.heap.size w w' := by
  obtain ⟨hT, hE⟩ := hSt
  have HT := Lib.hid hT
  have HE := Lib.hid hE
  clear hT hE
  by_cases hl : (1048576 : Int) < (a.size : Int)
  · go_enter Tryd.func11, Tryd.ntmps11
    go_wp2
    go_ret
    exact ⟨rfl, Below.refl _ _⟩
  · obtain ⟨T, HS, HI⟩ : ∃ T : ByteArray × Int, Hid (∀ w, Calls Tryd.prog 36 #[.string a] w fun e w' => e = .returned (.tuple #[.string T.1, .int .i64 T.2]) ∧ Below w.heap.size w w') ∧ Hid (∀ w, Tab w → Errs w → Calls Tryd.prog 37 #[.string a] w fun e w' => e = .returned (.tuple #[.string T.1, .int .i64 T.2]) ∧ Below w.heap.size w w') := ⟨_, fun w => s_NormalAmount a (by omega) w, fun w h1 h2 => i_NormalAmount a (by omega) w h1 h2⟩
    go_enter Tryd.func11, Tryd.ntmps11
    go_wp2_with fail
    refine (HS.out _).mono ?_
    rintro e w1 ⟨rfl, hb1⟩
    go_wp2_with fail
    refine (HI.out _ (HT.out.below hb1) (HE.out.below hb1)).mono ?_
    rintro e w2 ⟨rfl, hb2⟩
    go_wp2_with fail
    go_ret
    exact ⟨rfl, hb1.trans (hb2.mono hb1.size)⟩
end Go.Proofs.YtpbflceekikbiaaDoor
