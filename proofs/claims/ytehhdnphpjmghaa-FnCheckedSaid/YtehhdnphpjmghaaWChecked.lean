/-
  The law FnChecked. No conditions.
-/
import Derived.Test.YtehhdnphpjmghaaWSumI
import Derived.Test.YtehhdnphpjmghaaWB
import Derived.Test.YtehhdnphpjmghaaDraw
import Derived.Deep.QuietTactic
import Derived.BigQuiet
namespace Go.Proofs.Ytehhdnphpjmghaa
open Go.ChangeShapes Go.WideShapes Go.ChangeAt Go.RowKit

def TwoP (w : World) (e : Ending) (w' : World) : Prop := ∃ x y : Int, e = .returned (.tuple #[.int .i64 x, .int .i64 y]) ∧ I64 x ∧ I64 y ∧ Below w.heap.size w w'
theorem s_l02Two (w : World) (a : Option Addr) (len cap : Nat) (hm : len ≤ 1048576) (hcode : Code8 w a len) : Calls Try.prog 47 #[.slice a len cap] w (TwoP w) := by
  have HC := Lib.hid hcode
  clear hcode
  go_enter Try.func47, Try.ntmps47
  go_wp2_with fail
  refine (s_l01New w a len cap hm HC.out).mono ?_
  rintro e w1 ⟨c, rfl, hcb, hc1, hb1⟩
  go_wp2_with fail
  refine (s_l02Num _ _ _ _ _ hc1).mono ?_
  rintro e w2 ⟨x, rfl, hx, hc2, hg2⟩
  obtain ⟨hx0, hx1⟩ := hx
  go_wp2_with fail
  refine (s_l01Once _ _ _ _ _ _ (by omega) hc2).mono ?_
  rintro e w3 ⟨b, rfl, hc3, hg3⟩
  cases b
  · go_wp2_with fail
    refine (s_l02Num _ _ _ _ _ hc3).mono ?_
    rintro e w4 ⟨y, rfl, hy, hc4, hg4⟩
    have hg := below_grown (grown_trans hg2 (grown_trans hg3 hg4)) hcb hb1.size
    have HY := Lib.hid hy
    clear hg2 hg3 hg4 hc2 hc3 hc4 hy
    go_wp2_with fail
    go_ret2
    exact ⟨x, y, rfl, ⟨hx0, hx1⟩, HY.out, hb1.trans hg⟩
  · have hg := below_grown (grown_trans hg2 hg3) hcb hb1.size
    clear hg2 hg3 hc2 hc3
    go_wp2_with fail
    go_ret2
    exact ⟨x, _, rfl, ⟨hx0, hx1⟩, i64_wrap _, hb1.trans hg⟩
theorem s_DrawAddInt (w : World) (a : Option Addr) (len cap : Nat) (hm : len ≤ 1048576) (hcode : Code8 w a len) : Calls Try.prog 41 #[.slice a len cap] w (TwoP w) := by
  have HC := Lib.hid hcode
  clear hcode
  go_enter Try.func41, Try.ntmps41
  go_wp2_with fail
  refine (s_l02Two w a len cap hm HC.out).mono ?_
  rintro e w1 ⟨x, y, rfl, hx, hy, hb1⟩
  have HX := Lib.hid hx
  have HY := Lib.hid hy
  clear hx hy
  go_wp2_with fail
  go_ret2
  exact ⟨x, y, rfl, HX.out, HY.out, hb1⟩

theorem sum_two (a b : Int) (ha : a ≤ 9223372036854775807) : sumR [a, b] 0 = (addV a b, addB a b) := by
  show (if addB 0 a = true then (if addB (0 + a) b = true then (0 + a + b, true) else (0, false)) else (0, false)) = _
  rw [Int.zero_add]
  by_cases h : 0 ≤ a
  · rw [if_pos (add_t (a := 0) (b := a) ⟨by omega, h, by omega⟩).1]
    by_cases h2 : 0 ≤ a ∧ 0 ≤ b ∧ a + b ≤ 9223372036854775807
    · rw [if_pos (add_t h2).1, (add_t h2).1, (add_t h2).2]
    · rw [if_neg (by rw [(add_f h2).1]; decide), (add_f h2).1, (add_f h2).2]
  · rw [if_neg (by rw [(add_f (a := 0) (b := a) (by omega)).1]; decide), (add_f (a := a) (b := b) (by omega)).1, (add_f (a := a) (b := b) (by omega)).2]
theorem in_two {x y : Int} (a : -9223372036854775808 ≤ x) (b : x ≤ 9223372036854775807) (c : -9223372036854775808 ≤ y) (d : y ≤ 9223372036854775807) : In64 [x, y] := by
  intro j hj
  match j, hj with
  | 0, _ => exact ⟨a, b⟩
  | 1, _ => exact ⟨c, d⟩
theorem cmp_anti (a b : Int) : cmpV a b = -cmpV b a := by
  unfold cmpV
  by_cases h1 : a < b
  · rw [if_pos h1, if_neg (by omega), if_pos h1]
  · by_cases h2 : b < a
    · rw [if_neg h1, if_pos h2, if_pos h2]; rfl
    · rw [if_neg h1, if_neg h2, if_neg h2, if_neg h1]; rfl
theorem cmp_bd (a b : Int) : -1 ≤ cmpV a b ∧ cmpV a b ≤ 1 := by
  unfold cmpV
  by_cases h1 : a < b
  · rw [if_pos h1]; omega
  · rw [if_neg h1]
    by_cases h2 : b < a
    · rw [if_pos h2]; omega
    · rw [if_neg h2]; omega
theorem cmp_ge {a b : Int} (h : b ≤ a) : 0 ≤ cmpV a b := by
  unfold cmpV
  rw [if_neg (by omega)]
  by_cases h2 : b < a
  · rw [if_pos h2]; omega
  · rw [if_neg h2]; omega
theorem cmp_21 : cmpV 2 1 = 1 := by decide
theorem walk_FnChecked (a : Option Addr) (len cap : Nat) (zs : List Int) (w : World) (hz : IsRow .u8 w a len cap zs) : Calls Try.prog 14 #[.slice a len cap] w fun e w' => e = .returned (.bool true) ∧ Below w.heap.size w w' := by
  have HC := Lib.hid (code_of hz)
  have hm : len ≤ 9223372036854775807 := by
    rcases hz with ⟨_, rfl, _⟩ | ⟨x, _, hl, hm, _⟩
    · omega
    · unfold maxLen at hm; omega
  clear hz
  by_cases hb : (1048576 : Int) < (len : Int)
  · have hd : decide ((1048576 : Int) < (len : Int)) = true := by simpa using hb
    go_enter Try.func14, Try.ntmps14
    go_wp2_with (go_at_call 40; refine (l_big _ _ _ _ hm).mono ?_; rintro e w' ⟨rfl, rfl⟩)
    go_ret
    exact ⟨rfl, Below.refl _ _⟩
  · go_enter Try.func14, Try.ntmps14
    go_wp2_with (go_at_call 40; refine (l_big _ _ _ _ hm).mono ?_; rintro e w' ⟨rfl, rfl⟩)
    refine (s_DrawAddInt w a len cap (by omega) HC.out).mono ?_
    rintro e w1 ⟨x, y, rfl, hx, hy, hb1⟩
    obtain ⟨hx0, hx1⟩ := hx
    obtain ⟨hy0, hy1⟩ := hy
    obtain ⟨c2, hc2⟩ : ∃ c2, cmpV y x = c2 := ⟨_, rfl⟩
    have hcb := cmp_bd y x
    rw [hc2] at hcb
    obtain ⟨hcb0, hcb1⟩ := hcb
    have HC3 := Lib.hid hc2
    have HC2 : Hid (cmpV x y = -c2) := by unfold Hid; rw [cmp_anti, hc2]
    have hc21 := Lib.hid cmp_21
    have hs2 := sum_two x y hx1
    clear hc2
    have hmulpos : x * y ≤ 9223372036854775807 → 0 ≤ x → 0 ≤ y → 0 < x → (x * y) / x = y ∧ (x * y) % x = 0 := fun _ _ _ h => ⟨Int.mul_ediv_cancel_left _ (by omega), Int.mul_emod_right _ _⟩
    have HP := Lib.hid hmulpos
    clear hmulpos
    by_cases hadd : 0 ≤ x ∧ 0 ≤ y ∧ x + y ≤ 9223372036854775807
    · have hA := Lib.hid (add_t hadd)
      rw [hA.out.1, hA.out.2] at hs2
      have HSI : Hid (∀ w g, HasI w g [x, y] → Calls Try.prog 29 #[.slice (some ⟨g, 0, none⟩) 2 2] w fun e w' => e = .returned (.tuple #[.int .i64 (x + y), .bool true]) ∧ w = w') := fun w g h => by
        have := i_SumInts w g 2 [x, y] rfl (by decide) h (in_two hx0 hx1 hy0 hy1)
        rw [hs2] at this
        exact this
      obtain ⟨h1, h2, h3⟩ := hadd
      have hS : Hid (subB (x + y) y = true ∧ subV (x + y) y = x) := ⟨(sub_t ⟨h2, by omega⟩).1, by rw [(sub_t (a := x + y) (b := y) ⟨h2, by omega⟩).2]; omega⟩
      obtain ⟨c0, hc0⟩ : ∃ c0, cmpV (x + y) x = c0 := ⟨_, rfl⟩
      have hc00 : 0 ≤ c0 := by rw [← hc0]; exact cmp_ge (by omega)
      have HC1 := Lib.hid hc0
      clear hc0 hs2
      by_cases hmul : x * y ≤ 9223372036854775807
      · have hM := Lib.hid (mul_t ⟨h1, h2, hmul⟩)
        by_cases hpos : 0 < x
        · obtain ⟨hq1, hq2⟩ := HP.out hmul h1 h2 hpos
          obtain ⟨m, hm⟩ : ∃ m, x * y = m := ⟨_, rfl⟩
          have hm0 : 0 ≤ m := by rw [← hm]; exact Int.mul_nonneg h1 h2
          rw [hm] at hq1 hq2 hM hmul
          clear hm
          go_wp2_with (first | (go_at_call 18; refine (i_AddInt x y (by omega) (by omega) _).mono ?_; rintro e w' ⟨rfl, rfl⟩; rw [hA.out.1, hA.out.2]) | (go_at_call 17; refine (s_AddInt x y (by omega) (by omega) _).mono ?_; rintro e w' ⟨rfl, rfl⟩; rw [hA.out.1, hA.out.2]) | (go_at_call 20; refine (i_MulInt x y (by omega) (by omega) _).mono ?_; rintro e w' ⟨rfl, rfl⟩; rw [hM.out.1, hM.out.2]) | (go_at_call 22; refine (i_SubInt (x + y) y (by omega) (by omega) _).mono ?_; rintro e w' ⟨rfl, rfl⟩; rw [hS.out.1, hS.out.2]) | (go_at_call 29; refine (HSI.out _ _ (heap_alloc_new _ _)).mono ?_; rintro e w' ⟨rfl, rfl⟩) | (go_at_call 26; refine (i_CompareInt _ _ _).mono ?_; rintro e w' ⟨rfl, rfl⟩; first | rw [hc21] | rw [HC2.out] | rw [HC3.out] | rw [HC1.out]))
          go_ret
          exact ⟨rfl, by first | exact hb1.alloc hb1.size _ | exact hb1⟩
        · obtain ⟨m, hm⟩ : ∃ m, x * y = m := ⟨_, rfl⟩
          have hm0 : 0 ≤ m := by rw [← hm]; exact Int.mul_nonneg h1 h2
          rw [hm] at hM hmul
          clear hm
          go_wp2_with (first | (go_at_call 18; refine (i_AddInt x y (by omega) (by omega) _).mono ?_; rintro e w' ⟨rfl, rfl⟩; rw [hA.out.1, hA.out.2]) | (go_at_call 17; refine (s_AddInt x y (by omega) (by omega) _).mono ?_; rintro e w' ⟨rfl, rfl⟩; rw [hA.out.1, hA.out.2]) | (go_at_call 20; refine (i_MulInt x y (by omega) (by omega) _).mono ?_; rintro e w' ⟨rfl, rfl⟩; rw [hM.out.1, hM.out.2]) | (go_at_call 22; refine (i_SubInt (x + y) y (by omega) (by omega) _).mono ?_; rintro e w' ⟨rfl, rfl⟩; rw [hS.out.1, hS.out.2]) | (go_at_call 29; refine (HSI.out _ _ (heap_alloc_new _ _)).mono ?_; rintro e w' ⟨rfl, rfl⟩) | (go_at_call 26; refine (i_CompareInt _ _ _).mono ?_; rintro e w' ⟨rfl, rfl⟩; first | rw [hc21] | rw [HC2.out] | rw [HC3.out] | rw [HC1.out]))
          go_ret
          exact ⟨rfl, by first | exact hb1.alloc hb1.size _ | exact hb1⟩
      · have hM := Lib.hid (mul_f (a := x) (b := y) (by omega))
        clear hmul
        go_wp2_with (first | (go_at_call 18; refine (i_AddInt x y (by omega) (by omega) _).mono ?_; rintro e w' ⟨rfl, rfl⟩; rw [hA.out.1, hA.out.2]) | (go_at_call 17; refine (s_AddInt x y (by omega) (by omega) _).mono ?_; rintro e w' ⟨rfl, rfl⟩; rw [hA.out.1, hA.out.2]) | (go_at_call 20; refine (i_MulInt x y (by omega) (by omega) _).mono ?_; rintro e w' ⟨rfl, rfl⟩; rw [hM.out.1, hM.out.2]) | (go_at_call 22; refine (i_SubInt (x + y) y (by omega) (by omega) _).mono ?_; rintro e w' ⟨rfl, rfl⟩; rw [hS.out.1, hS.out.2]) | (go_at_call 29; refine (HSI.out _ _ (heap_alloc_new _ _)).mono ?_; rintro e w' ⟨rfl, rfl⟩) | (go_at_call 26; refine (i_CompareInt _ _ _).mono ?_; rintro e w' ⟨rfl, rfl⟩; first | rw [hc21] | rw [HC2.out] | rw [HC3.out] | rw [HC1.out]))
        go_ret
        exact ⟨rfl, by first | exact hb1.alloc hb1.size _ | exact hb1⟩
    · have hA := Lib.hid (add_f hadd)
      rw [hA.out.1, hA.out.2] at hs2
      have HSI : Hid (∀ w g, HasI w g [x, y] → Calls Try.prog 29 #[.slice (some ⟨g, 0, none⟩) 2 2] w fun e w' => e = .returned (.tuple #[.int .i64 0, .bool false]) ∧ w = w') := fun w g h => by
        have := i_SumInts w g 2 [x, y] rfl (by decide) h (in_two hx0 hx1 hy0 hy1)
        rw [hs2] at this
        exact this
      clear hs2
      by_cases hmul : 0 ≤ x ∧ 0 ≤ y ∧ x * y ≤ 9223372036854775807
      · have hM := Lib.hid (mul_t hmul)
        obtain ⟨h1, h2, hmul⟩ := hmul
        have hpos : 0 < x := by
          rcases Int.lt_or_eq_of_le h1 with h | h
          · exact h
          · exact absurd ⟨h1, h2, by omega⟩ hadd
        obtain ⟨hq1, hq2⟩ := HP.out hmul h1 h2 hpos
        obtain ⟨m, hm⟩ : ∃ m, x * y = m := ⟨_, rfl⟩
        have hm0 : 0 ≤ m := by rw [← hm]; exact Int.mul_nonneg h1 h2
        rw [hm] at hq1 hq2 hM hmul
        clear hm hadd
        go_wp2_with (first | (go_at_call 18; refine (i_AddInt x y (by omega) (by omega) _).mono ?_; rintro e w' ⟨rfl, rfl⟩; rw [hA.out.1, hA.out.2]) | (go_at_call 17; refine (s_AddInt x y (by omega) (by omega) _).mono ?_; rintro e w' ⟨rfl, rfl⟩; rw [hA.out.1, hA.out.2]) | (go_at_call 20; refine (i_MulInt x y (by omega) (by omega) _).mono ?_; rintro e w' ⟨rfl, rfl⟩; rw [hM.out.1, hM.out.2]) | (go_at_call 29; refine (HSI.out _ _ (heap_alloc_new _ _)).mono ?_; rintro e w' ⟨rfl, rfl⟩) | (go_at_call 26; refine (i_CompareInt _ _ _).mono ?_; rintro e w' ⟨rfl, rfl⟩; first | rw [hc21] | rw [HC2.out] | rw [HC3.out]))
        go_ret
        exact ⟨rfl, by first | exact hb1.alloc hb1.size _ | exact hb1⟩
      · have hM := Lib.hid (mul_f hmul)
        clear hmul hadd
        go_wp2_with (first | (go_at_call 18; refine (i_AddInt x y (by omega) (by omega) _).mono ?_; rintro e w' ⟨rfl, rfl⟩; rw [hA.out.1, hA.out.2]) | (go_at_call 17; refine (s_AddInt x y (by omega) (by omega) _).mono ?_; rintro e w' ⟨rfl, rfl⟩; rw [hA.out.1, hA.out.2]) | (go_at_call 20; refine (i_MulInt x y (by omega) (by omega) _).mono ?_; rintro e w' ⟨rfl, rfl⟩; rw [hM.out.1, hM.out.2]) | (go_at_call 29; refine (HSI.out _ _ (heap_alloc_new _ _)).mono ?_; rintro e w' ⟨rfl, rfl⟩) | (go_at_call 26; refine (i_CompareInt _ _ _).mono ?_; rintro e w' ⟨rfl, rfl⟩; first | rw [hc21] | rw [HC2.out] | rw [HC3.out]))
        go_ret
        exact ⟨rfl, by first | exact hb1.alloc hb1.size _ | exact hb1⟩
end Go.Proofs.Ytehhdnphpjmghaa
