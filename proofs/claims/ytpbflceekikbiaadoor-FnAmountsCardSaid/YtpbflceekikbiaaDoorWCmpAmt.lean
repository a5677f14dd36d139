/-
  CompareAmounts (both sides) and its law. No conditions beyond the listed variables' places.
-/
import Derived.Test.YtpbflceekikbiaaDoorWReadAmt
namespace Go.Proofs.YtpbflceekikbiaaDoor
open Go.ChangeShapes Go.WideShapes Go.ChangeAt Go.RowKit Go.Proofs.YtpbflceekikbiaaDoor.Dec

def cmpAmt (a b : ByteArray) : Int × Bool := if (readAmt a).2 ≠ 0 ∨ (readAmt b).2 ≠ 0 then (0, false) else (cmpV (readAmt a).1 (readAmt b).1, true)
theorem cmpAmt_no {a b : ByteArray} (h : (readAmt a).2 ≠ 0 ∨ (readAmt b).2 ≠ 0) : cmpAmt a b = (0, false) := if_pos h
theorem cmpAmt_ok {a b : ByteArray} (h : (readAmt a).2 = 0) (h2 : (readAmt b).2 = 0) : cmpAmt a b = (cmpV (readAmt a).1 (readAmt b).1, true) := if_neg (by rw [h, h2]; simp)
theorem s_CompareAmounts (a b : ByteArray) (ha : a.size ≤ 2147483648) (hb : b.size ≤ 2147483648) (w : World) : Calls Tryd.prog 38 #[.string a, .string b] w fun e w' => e = .returned (.tuple #[.int .i64 (cmpAmt a b).1, .bool (cmpAmt a b).2]) ∧ Below w.heap.size w w' := by
  obtain ⟨R, hR⟩ : ∃ R, cmpAmt a b = R := ⟨_, rfl⟩
  rw [hR]
  obtain ⟨x, c, hx⟩ : ∃ x c, readAmt a = (x, c) := ⟨_, _, rfl⟩
  obtain ⟨y, d, hy⟩ : ∃ y d, readAmt b = (y, d) := ⟨_, _, rfl⟩
  have HA : Hid (∀ w, Calls Tryd.prog 34 #[.string a] w fun e w' => e = .returned (.tuple #[.int .i64 x, .int .i64 c]) ∧ Below w.heap.size w w') := fun w => by
    have := s_ReadAmount a ha w
    rw [hx] at this
    exact this
  have HB : Hid (∀ w, Calls Tryd.prog 34 #[.string b] w fun e w' => e = .returned (.tuple #[.int .i64 y, .int .i64 d]) ∧ Below w.heap.size w w') := fun w => by
    have := s_ReadAmount b hb w
    rw [hy] at this
    exact this
  clear ha hb
  by_cases hc : c = 0
  case neg =>
    have HU : Hid (R = (0, false)) := by rw [← hR]; exact cmpAmt_no (.inl (by rw [hx]; exact hc))
    have hc' : (c != 0) = true := bne_iff_ne.2 hc
    clear hR hx hy hc
    go_enter Tryd.func38, Tryd.ntmps38
    go_wp2_with fail
    refine (HA.out _).mono ?_
    rintro e w1 ⟨rfl, hb1⟩
    go_wp2_with fail
    refine (HB.out _).mono ?_
    rintro e w2 ⟨rfl, hb2⟩
    have hg2 := hb1.trans (hb2.mono hb1.size)
    go_wp2_with fail
    go_ret2
    exact ⟨ret_rd HU.out, hg2⟩
  subst hc
  by_cases hd : d = 0
  case neg =>
    have HU : Hid (R = (0, false)) := by rw [← hR]; exact cmpAmt_no (.inr (by rw [hy]; exact hd))
    have hd' : (d != 0) = true := bne_iff_ne.2 hd
    clear hR hx hy hd
    go_enter Tryd.func38, Tryd.ntmps38
    go_wp2_with fail
    refine (HA.out _).mono ?_
    rintro e w1 ⟨rfl, hb1⟩
    go_wp2_with fail
    refine (HB.out _).mono ?_
    rintro e w2 ⟨rfl, hb2⟩
    have hg2 := hb1.trans (hb2.mono hb1.size)
    go_wp2_with fail
    go_ret2
    exact ⟨ret_rd HU.out, hg2⟩
  subst hd
  have HU : Hid (R = (cmpV x y, true)) := by rw [← hR, cmpAmt_ok (by rw [hx]) (by rw [hy]), hx, hy]; rfl
  clear hR hx hy
  case pos =>
    go_enter Tryd.func38, Tryd.ntmps38
    go_wp2_with fail
    refine (HA.out _).mono ?_
    rintro e w1 ⟨rfl, hb1⟩
    go_wp2_with fail
    refine (HB.out _).mono ?_
    rintro e w2 ⟨rfl, hb2⟩
    have hg2 := hb1.trans (hb2.mono hb1.size)
    go_wp2_with (go_at_call 56; refine (s_CompareInt x y _).mono ?_; rintro e w3 ⟨rfl, rfl⟩)
    go_ret2
    exact ⟨ret_rd HU.out, hg2⟩

theorem i_CompareAmounts (a b : ByteArray) (ha : a.size ≤ 2147483648) (hb : b.size ≤ 2147483648) (w : World) (hT : Tab w) (hE : Errs w) : Calls Tryd.prog 39 #[.string a, .string b] w fun e w' => e = .returned (.tuple #[.int .i64 (cmpAmt a b).1, .bool (cmpAmt a b).2]) ∧ Below w.heap.size w w' := by
  have HT := Lib.hid hT
  have HE := Lib.hid hE
  clear hT hE
  obtain ⟨R, hR⟩ : ∃ R, cmpAmt a b = R := ⟨_, rfl⟩
  rw [hR]
  obtain ⟨x, c, hx⟩ : ∃ x c, readAmt a = (x, c) := ⟨_, _, rfl⟩
  obtain ⟨y, d, hy⟩ : ∃ y d, readAmt b = (y, d) := ⟨_, _, rfl⟩
  have HA : Hid (∀ w, Tab w → Errs w → Calls Tryd.prog 35 #[.string a] w fun e w' => e = .returned (.tuple #[.int .i64 x, .int .i64 c]) ∧ Below w.heap.size w w') := fun w h1 h2 => by
    have := i_ReadAmount a ha w h1 h2
    rw [hx] at this
    exact this
  have HB : Hid (∀ w, Tab w → Errs w → Calls Tryd.prog 35 #[.string b] w fun e w' => e = .returned (.tuple #[.int .i64 y, .int .i64 d]) ∧ Below w.heap.size w w') := fun w h1 h2 => by
    have := i_ReadAmount b hb w h1 h2
    rw [hy] at this
    exact this
  clear ha hb
  by_cases hc : c = 0
  case neg =>
    have HU : Hid (R = (0, false)) := by rw [← hR]; exact cmpAmt_no (.inl (by rw [hx]; exact hc))
    have hc' : (c != 0) = true := bne_iff_ne.2 hc
    clear hR hx hy hc
    go_enter Tryd.func39, Tryd.ntmps39
    go_wp2_with fail
    refine (HA.out _ HT.out HE.out).mono ?_
    rintro e w1 ⟨rfl, hb1⟩
    go_wp2_with fail
    refine (HB.out _ (HT.out.below hb1) (HE.out.below hb1)).mono ?_
    rintro e w2 ⟨rfl, hb2⟩
    have hg2 := hb1.trans (hb2.mono hb1.size)
    go_wp2_with fail
    go_ret2
    exact ⟨ret_rd HU.out, hg2⟩
  subst hc
  by_cases hd : d = 0
  case neg =>
    have HU : Hid (R = (0, false)) := by rw [← hR]; exact cmpAmt_no (.inr (by rw [hy]; exact hd))
    have hd' : (d != 0) = true := bne_iff_ne.2 hd
    clear hR hx hy hd
    go_enter Tryd.func39, Tryd.ntmps39
    go_wp2_with fail
    refine (HA.out _ HT.out HE.out).mono ?_
    rintro e w1 ⟨rfl, hb1⟩
    go_wp2_with fail
    refine (HB.out _ (HT.out.below hb1) (HE.out.below hb1)).mono ?_
    rintro e w2 ⟨rfl, hb2⟩
    have hg2 := hb1.trans (hb2.mono hb1.size)
    go_wp2_with fail
    go_ret2
    exact ⟨ret_rd HU.out, hg2⟩
  subst hd
  have HU : Hid (R = (cmpV x y, true)) := by rw [← hR, cmpAmt_ok (by rw [hx]) (by rw [hy]), hx, hy]; rfl
  clear hR hx hy
  case pos =>
    go_enter Tryd.func39, Tryd.ntmps39
    go_wp2_with fail
    refine (HA.out _ HT.out HE.out).mono ?_
    rintro e w1 ⟨rfl, hb1⟩
    go_wp2_with fail
    refine (HB.out _ (HT.out.below hb1) (HE.out.below hb1)).mono ?_
    rintro e w2 ⟨rfl, hb2⟩
    have hg2 := hb1.trans (hb2.mono hb1.size)
    go_wp2_with (go_at_call 57; refine (i_CompareInt x y _).mono ?_; rintro e w3 ⟨rfl, rfl⟩)
    go_ret2
    exact ⟨ret_rd HU.out, hg2⟩

theorem walk_FnExactCompareAmounts (a b : ByteArray) (w : World) (_ha : a.size ≤ maxLen) (_hb : b.size ≤ maxLen) (hSt : Tab w ∧ Errs w) : Calls Tryd.prog 12 #[.string a, .string b] w fun e w' => e = .returned (.bool true) ∧ Below w.heap.size w w' := by
  obtain ⟨hT, hE⟩ := hSt
  have HT := Lib.hid hT
  have HE := Lib.hid hE
  clear hT hE
  by_cases hl : (1048576 : Int) < (a.size : Int)
  · go_enter Tryd.func12, Tryd.ntmps12
    go_wp2
    go_ret
    exact ⟨rfl, Below.refl _ _⟩
  by_cases hl2 : (1048576 : Int) < (b.size : Int)
  · go_enter Tryd.func12, Tryd.ntmps12
    go_wp2
    go_ret
    exact ⟨rfl, Below.refl _ _⟩
  · obtain ⟨T, HS, HI⟩ : ∃ T : Int × Bool, Hid (∀ w, Calls Tryd.prog 38 #[.string a, .string b] w fun e w' => e = .returned (.tuple #[.int .i64 T.1, .bool T.2]) ∧ Below w.heap.size w w') ∧ Hid (∀ w, Tab w → Errs w → Calls Tryd.prog 39 #[.string a, .string b] w fun e w' => e = .returned (.tuple #[.int .i64 T.1, .bool T.2]) ∧ Below w.heap.size w w') := ⟨_, fun w => s_CompareAmounts a b (by omega) (by omega) w, fun w h1 h2 => i_CompareAmounts a b (by omega) (by omega) w h1 h2⟩
    go_enter Tryd.func12, Tryd.ntmps12
    go_wp2_with fail
    refine (HS.out _).mono ?_
    rintro e w1 ⟨rfl, hb1⟩
    go_wp2_with fail
    refine (HI.out _ (HT.out.below hb1) (HE.out.below hb1)).mono ?_
    rintro e w2 ⟨rfl, hb2⟩
    go_wp2_with fail
    go_ret
    exact ⟨rfl, hb1.trans (hb2.mono hb1.size)⟩
end Go.Proofs.YtpbflceekikbiaaDoor
