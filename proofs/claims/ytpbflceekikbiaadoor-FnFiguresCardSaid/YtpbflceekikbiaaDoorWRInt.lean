/-
  ReadInt and ReadDecimal (both sides) and their laws. No conditions beyond the listed variables' places.
-/
import Derived.Test.YtpbflceekikbiaaDoorWDec
import Derived.Lib.SmallJoins
namespace Go.Proofs.YtpbflceekikbiaaDoor
open Go.ChangeShapes Go.WideShapes Go.ChangeAt Go.RowKit Go.Proofs.YtpbflceekikbiaaDoor.Dec

theorem ret_rd {a : Int} {b : Bool} {r : Int × Bool} (h : r = (a, b)) : Ending.returned (.tuple #[.int .i64 a, .bool b]) = .returned (.tuple #[.int .i64 r.1, .bool r.2]) := by rw [h]
theorem str_ne {a b : ByteArray} (h : a ≠ b) : (a.toList == b.toList) = false := by
  rw [beq_eq_false_iff_ne, ByteArray.toList_eq, ByteArray.toList_eq]
  intro he
  exact h (ByteArray.ext (Array.toList_inj.1 he))
theorem mk_ne {l : List UInt8} {s : ByteArray} (h : l ≠ s.data.toList) : (⟨l.toArray⟩ : ByteArray) ≠ s := by
  intro he
  apply h
  rw [← he]
theorem mk_eq {l : List UInt8} {s : ByteArray} (h : l = s.data.toList) : (⟨l.toArray⟩ : ByteArray) = s := by
  apply ByteArray.ext
  apply Array.toList_inj.1
  rw [← h]

theorem i_ReadInt (s : ByteArray) (hs : s.size ≤ 2147483648) (w : World) (hT : Tab w) (hE : Errs w) : Calls Tryd.prog 22 #[.string s] w fun e w' => e = .returned (.tuple #[.int .i64 (readI s.data.toList).1, .bool (readI s.data.toList).2]) ∧ Below w.heap.size w w' := by
  obtain ⟨R, hR⟩ : ∃ R, readI s.data.toList = R := ⟨_, rfl⟩
  rw [hR]
  have HT := Lib.hid hT
  have HE := Lib.hid hE
  clear hT hE
  by_cases hl : (20 : Int) < (s.size : Int)
  · have HU : Hid (R = (0, false)) := by
      rw [← hR]
      exact read_no fun hg => by have := good_len hg; simp at this; omega
    clear hR
    go_enter Tryd.func22, Tryd.ntmps22
    go_wp2_with fail
    go_ret2
    exact ⟨ret_rd HU.out, Below.refl _ _⟩
  · cases h : Lib.atoiAll s.data.toList with
    | «syntax» =>
      have HU : Hid (R = (0, false)) := by rw [← hR]; exact read_atoi_no (fun v => by rw [h]; intro hc; cases hc)
      obtain ⟨⟨tp, p, hv⟩, _⟩ := HE.out
      have HC := Lib.hid (Tryd.strconv_Atoi_syntax_var s (by omega) h tp p w hv)
      clear hR h hv
      go_enter Tryd.func22, Tryd.ntmps22
      go_wp2_with fail
      refine HC.out.mono ?_
      rintro e w1 ⟨N, rfl, _, _, hb1⟩
      go_wp2_with fail
      go_ret2
      exact ⟨ret_rd HU.out, hb1⟩
    | range =>
      have HU : Hid (R = (0, false)) := by rw [← hR]; exact read_atoi_no (fun v => by rw [h]; intro hc; cases hc)
      obtain ⟨_, tp, p, hv⟩ := HE.out
      have HC := Lib.hid (Tryd.strconv_Atoi_range_var s (by omega) h tp p w hv)
      generalize Lib.atoiSat s.data.toList = sat at HC
      clear hR h hv
      go_enter Tryd.func22, Tryd.ntmps22
      go_wp2_with fail
      refine HC.out.mono ?_
      rintro e w1 ⟨N, rfl, _, _, hb1⟩
      go_wp2_with fail
      go_ret2
      exact ⟨ret_rd HU.out, hb1⟩
    | ok v =>
      obtain ⟨vb0, vb1⟩ := Lib.atoiAll_bounds h
      have hc0 : Calls Tryd.prog 46 #[.string s] w fun e w' => e = .returned (.tuple #[.int .i64 v, .nilIface]) ∧ Below w.heap.size w w' := (Tryd.strconv_Atoi_ok s (by omega) v h w).mono fun e w' ⟨h1, h2⟩ => ⟨h1, by
        rcases h2 with rfl | ⟨t, rfl⟩
        · exact Below.refl _ _
        · exact Go.Joins.below_bytesWorld _ w _ t (Nat.le_refl _)⟩
      have HC := Lib.hid hc0
      clear hc0
      by_cases hv : v < 0
      · have HU : Hid (R = (0, false)) := by rw [← hR]; exact read_atoi_neg h hv
        clear hR h
        go_enter Tryd.func22, Tryd.ntmps22
        go_wp2_with fail
        refine HC.out.mono ?_
        rintro e w1 ⟨rfl, hb1⟩
        go_wp2_with fail
        go_ret2
        exact ⟨ret_rd HU.out, hb1⟩
      · obtain ⟨S, hS⟩ : ∃ S : ByteArray, (⟨(Lib.itoa v).toArray⟩ : ByteArray) = S := ⟨_, rfl⟩
        have HD : Hid (∀ w, Tab w → Calls Tryd.prog 16 #[.int .i64 v] w fun e w' => e = .returned (.string S) ∧ Below w.heap.size w w') := fun w h => by rw [← hS]; exact i_Decimal v vb0 vb1 w h
        by_cases he : Lib.itoa v = s.data.toList
        · have HU : Hid (R = (v, true)) := by rw [← hR]; exact read_atoi_same (by omega) vb1 he
          have hSs : S = s := by rw [← hS]; exact mk_eq he
          clear hR h hS he
          subst hSs
          go_enter Tryd.func22, Tryd.ntmps22
          go_wp2_with fail
          refine HC.out.mono ?_
          rintro e w1 ⟨rfl, hb1⟩
          go_wp2_with fail
          refine (HD.out _ (HT.out.below hb1)).mono ?_
          rintro e w2 ⟨rfl, hb2⟩
          go_wp2_with fail
          go_ret2
          exact ⟨ret_rd HU.out, hb1.trans (hb2.mono hb1.size)⟩
        · have HU : Hid (R = (0, false)) := by rw [← hR]; exact read_atoi_other h he
          have hne := str_ne (a := S) (b := s) (by rw [← hS]; exact mk_ne he)
          clear hR h hS he
          go_enter Tryd.func22, Tryd.ntmps22
          go_wp2_with fail
          refine HC.out.mono ?_
          rintro e w1 ⟨rfl, hb1⟩
          go_wp2_with fail
          refine (HD.out _ (HT.out.below hb1)).mono ?_
          rintro e w2 ⟨rfl, hb2⟩
          go_wp2_with fail
          go_ret2
          exact ⟨ret_rd HU.out, hb1.trans (hb2.mono hb1.size)⟩

theorem dig_at {s : ByteArray} {k : Nat} (h : k < s.size) : k < s.data.toList.length ∧ ∀ h', s.data.toList[k]'h' = s[k] := by
  refine ⟨by simpa using h, fun h' => by simp; rfl⟩
theorem s_ReadInt (s : ByteArray) (hs : s.size ≤ 2147483648) (w : World) : Calls Tryd.prog 21 #[.string s] w fun e w' => e = .returned (.tuple #[.int .i64 (readI s.data.toList).1, .bool (readI s.data.toList).2]) ∧ Below w.heap.size w w' := by
  obtain ⟨R, hR⟩ : ∃ R, readI s.data.toList = R := ⟨_, rfl⟩
  rw [hR]
  have HR := Lib.hid hR
  clear hR
  by_cases hl : (19 : Int) < (s.size : Int)
  · have HU : Hid (R = (0, false)) := by
      rw [← HR.out]
      exact read_no fun hg => by have := good_len hg; simp at this; omega
    go_enter Tryd.func21, Tryd.ntmps21
    go_wp2_with fail
    go_ret2
    exact ⟨ret_rd HU.out, Below.refl _ _⟩
  · go_enter Tryd.func21, Tryd.ntmps21
    go_wp2_with fail
    go_loop [4, 5] (fun n i => ∃ (k : Nat) (m : Int), i = .int .i64 k ∧ k ≤ s.size ∧ n = .int .i64 m ∧ 0 ≤ m ∧ m ≤ 9223372036854775807 ∧ Hid (m = ((valL (s.data.toList.take k) : Nat) : Int))) (fun _ i => s.size - (intOf i).toNat)
    case atStart => exact ⟨0, 0, rfl, by omega, rfl, by omega, by omega, rfl⟩
    case round =>
      obtain ⟨k, m, rfl, hk, rfl, hm0, hm1, HM⟩ := hrel
      by_cases hlt : k < s.size
      · obtain ⟨hkl, hke⟩ := dig_at hlt
        have hv1 := val_take hkl
        have hnd := read_nodig (l := s.data.toList) hkl
        have hrm := read_room (l := s.data.toList) hkl
        rw [hke] at hv1 hnd hrm
        obtain ⟨c, hc⟩ : ∃ c : Nat, s[k].toNat = c := ⟨_, rfl⟩
        have hc256 : c < 256 := by rw [← hc]; exact UInt8.toNat_lt _
        unfold isDig at hnd
        rw [hc] at hv1 hnd hrm
        rw [HR.out] at hnd hrm
        have hlt' : (k : Int) < (s.size : Int) := by omega
        have hci : (s[k].toNat : Int) = (c : Int) := by rw [hc]
        obtain ⟨z, hz⟩ : ∃ z : Int, (c : Int) = z := ⟨_, rfl⟩
        have hz0 : 0 ≤ z := by omega
        have hz1 : z ≤ 255 := by omega
        have HZ := Lib.hid hz
        rw [hz] at hci
        by_cases h48 : z < 48
        · have HU : Hid (R = (0, false)) := hnd (by omega)
          clear hv1 hnd hrm hz hc
          go_wp2_with fail
          go_ret2
          exact ⟨ret_rd HU.out, Below.refl _ _⟩
        · by_cases h57 : 57 < z
          · have HU : Hid (R = (0, false)) := hnd (by omega)
            clear hv1 hnd hrm hz hc
            go_wp2_with fail
            go_ret2
            exact ⟨ret_rd HU.out, Below.refl _ _⟩
          · by_cases hroom : (9223372036854775807 - (z - 48)) / 10 < m
            · have HU : Hid (R = (0, false)) := hrm (by have := HM.out; omega)
              clear hv1 hnd hrm hz hc
              go_wp2_with fail
              go_ret2
              exact ⟨ret_rd HU.out, Below.refl _ _⟩
            · have HN : Hid (10 * m + (z - 48) = ((valL (s.data.toList.take (k + 1)) : Nat) : Int)) := by have := HM.out; unfold Hid; omega
              have hb1 : 10 * m + (z - 48) ≤ 9223372036854775807 := by omega
              clear hv1 hnd hrm hz hc
              go_wp2_with fail
              go_round
              case rel => exact ⟨k + 1, _, by go_num, by omega, rfl, by omega, by omega, HN⟩
              case measure => simp [intOf]; omega
      · obtain rfl : k = s.size := by omega
        have htk : s.data.toList.take s.size = s.data.toList := List.take_of_length_le (by simp)
        have hM := HM.out
        rw [htk] at hM
        obtain ⟨S, hS⟩ : ∃ S : ByteArray, (⟨(Lib.itoa m).toArray⟩ : ByteArray) = S := ⟨_, rfl⟩
        have HD : Hid (∀ w, Calls Tryd.prog 15 #[.int .i64 m] w fun e w' => e = .returned (.string S) ∧ Below w.heap.size w w') := fun w => by rw [← hS]; exact s_Decimal m (by omega) hm1 w
        have hit : Lib.itoa m = Lib.decDigits (valL s.data.toList) := by rw [hM, Lib.itoa_nonneg]
        by_cases he : Lib.decDigits (valL s.data.toList) = s.data.toList
        · have HU : Hid (R = (m, true)) := by rw [← HR.out, hM]; exact read_end he (by omega)
          have hSs : S = s := by rw [← hS]; exact mk_eq (hit.trans he)
          clear hS he hit hM htk
          go_wp2_with fail
          refine (HD.out _).mono ?_
          rintro e w2 ⟨rfl, hb2⟩
          rw [hSs]
          clear hSs
          go_wp2_with fail
          go_ret2
          exact ⟨ret_rd HU.out, hb2⟩
        · have HU : Hid (R = (0, false)) := by rw [← HR.out]; exact read_end_no he
          have hne := str_ne (a := S) (b := s) (by rw [← hS]; exact mk_ne (by rw [hit]; exact he))
          clear hS he hit hM htk
          go_wp2_with fail
          refine (HD.out _).mono ?_
          rintro e w2 ⟨rfl, hb2⟩
          go_wp2_with fail
          go_ret2
          exact ⟨ret_rd HU.out, hb2⟩

theorem walk_FnExactReadInt (a : ByteArray) (w : World) (_ha : a.size ≤ maxLen) (hSt : Tab w ∧ Errs w) : Calls Tryd.prog 6 #[.string a] w fun e w' => e = .returned (.bool true) ∧ Below w.heap.size w w' := by
  obtain ⟨hT, hE⟩ := hSt
  have HT := Lib.hid hT
  have HE := Lib.hid hE
  clear hT hE
  by_cases hl : (1048576 : Int) < (a.size : Int)
  · go_enter Tryd.func6, Tryd.ntmps6
    go_wp2
    go_ret
    exact ⟨rfl, Below.refl _ _⟩
  · obtain ⟨T, HS, HI⟩ : ∃ T : Int × Bool, Hid (∀ w, Calls Tryd.prog 21 #[.string a] w fun e w' => e = .returned (.tuple #[.int .i64 T.1, .bool T.2]) ∧ Below w.heap.size w w') ∧ Hid (∀ w, Tab w → Errs w → Calls Tryd.prog 22 #[.string a] w fun e w' => e = .returned (.tuple #[.int .i64 T.1, .bool T.2]) ∧ Below w.heap.size w w') := ⟨_, fun w => s_ReadInt a (by omega) w, fun w h1 h2 => i_ReadInt a (by omega) w h1 h2⟩
    go_enter Tryd.func6, Tryd.ntmps6
    go_wp2_with fail
    refine (HS.out _).mono ?_
    rintro e w1 ⟨rfl, hb1⟩
    go_wp2_with fail
    refine (HI.out _ (HT.out.below hb1) (HE.out.below hb1)).mono ?_
    rintro e w2 ⟨rfl, hb2⟩
    go_wp2_with fail
    go_ret
    exact ⟨rfl, hb1.trans (hb2.mono hb1.size)⟩

def readD (l : List UInt8) : Int × Bool := if (readI l).2 = true ∧ (readI l).1 ≤ 1000000000 then ((readI l).1, true) else (0, false)
theorem readD_no {l : List UInt8} (h : readI l = (0, false)) : readD l = (0, false) := by
  unfold readD
  rw [h]
  rfl
theorem readD_big {l : List UInt8} (h : 1000000000 < valL l) : readD l = (0, false) := by
  by_cases hg : Dec.Good l
  · unfold readD
    rw [read_end hg.1 hg.2, if_neg (by simp only [not_and]; intro _; show ¬ ((valL l : Nat) : Int) ≤ 1000000000; omega)]
  · exact readD_no (read_no hg)
theorem readD_long {l : List UInt8} (h : 10 < l.length) : readD l = (0, false) := by
  by_cases hg : Dec.Good l
  · refine readD_big ?_
    rcases Nat.lt_or_ge 1000000000 (valL l) with hc | hc
    · exact hc
    · have := dec_len 9 (valL l) (by omega)
      rw [hg.1] at this
      omega
  · exact readD_no (read_no hg)
theorem readD_end {l : List UInt8} (h : Lib.decDigits (valL l) = l) (hm : valL l ≤ 1000000000) : readD l = (((valL l : Nat) : Int), true) := by
  unfold readD
  rw [read_end h (by omega), if_pos ⟨rfl, by show ((valL l : Nat) : Int) ≤ 1000000000; omega⟩]

theorem i_ReadDecimal (s : ByteArray) (hs : s.size ≤ 2147483648) (w : World) (hT : Tab w) (hE : Errs w) : Calls Tryd.prog 24 #[.string s] w fun e w' => e = .returned (.tuple #[.int .i64 (readD s.data.toList).1, .bool (readD s.data.toList).2]) ∧ Below w.heap.size w w' := by
  obtain ⟨m, b, hI⟩ : ∃ m b, readI s.data.toList = (m, b) := ⟨_, _, rfl⟩
  have hc0 := i_ReadInt s hs w hT hE
  rw [hI] at hc0
  have HC := Lib.hid hc0
  obtain ⟨R, hR⟩ : ∃ R, readD s.data.toList = R := ⟨_, rfl⟩
  have hR2 : R = if b = true ∧ m ≤ 1000000000 then (m, true) else (0, false) := by rw [← hR]; unfold readD; rw [hI]
  rw [hR]
  clear hc0 hT hE hI hR
  cases b
  · have HU : Hid (R = (0, false)) := by rw [hR2]; rfl
    clear hR2
    go_enter Tryd.func24, Tryd.ntmps24
    go_wp2_with fail
    refine HC.out.mono ?_
    rintro e w1 ⟨rfl, hb1⟩
    go_wp2_with fail
    go_ret2
    exact ⟨ret_rd HU.out, hb1⟩
  · by_cases hm : (1000000000 : Int) < m
    · have HU : Hid (R = (0, false)) := by rw [hR2]; exact if_neg (by omega)
      clear hR2
      go_enter Tryd.func24, Tryd.ntmps24
      go_wp2_with fail
      refine HC.out.mono ?_
      rintro e w1 ⟨rfl, hb1⟩
      go_wp2_with fail
      go_ret2
      exact ⟨ret_rd HU.out, hb1⟩
    · have HU : Hid (R = (m, true)) := by rw [hR2]; exact if_pos ⟨rfl, by omega⟩
      clear hR2
      go_enter Tryd.func24, Tryd.ntmps24
      go_wp2_with fail
      refine HC.out.mono ?_
      rintro e w1 ⟨rfl, hb1⟩
      go_wp2_with fail
      go_ret2
      exact ⟨ret_rd HU.out, hb1⟩

theorem s_ReadDecimal (s : ByteArray) (hs : s.size ≤ 2147483648) (w : World) : Calls Tryd.prog 23 #[.string s] w fun e w' => e = .returned (.tuple #[.int .i64 (readD s.data.toList).1, .bool (readD s.data.toList).2]) ∧ Below w.heap.size w w' := by
  obtain ⟨R, hR⟩ : ∃ R, readD s.data.toList = R := ⟨_, rfl⟩
  rw [hR]
  have HR := Lib.hid hR
  clear hR
  by_cases hl : (10 : Int) < (s.size : Int)
  · have HU : Hid (R = (0, false)) := by
      rw [← HR.out]
      exact readD_long (by simp; omega)
    go_enter Tryd.func23, Tryd.ntmps23
    go_wp2_with fail
    go_ret2
    exact ⟨ret_rd HU.out, Below.refl _ _⟩
  · go_enter Tryd.func23, Tryd.ntmps23
    go_wp2_with fail
    go_loop [4, 5] (fun n i => ∃ (k : Nat) (m : Int), i = .int .i64 k ∧ k ≤ s.size ∧ n = .int .i64 m ∧ 0 ≤ m ∧ m ≤ 10000000000 ∧ Hid (m < (10 : Int) ^ k) ∧ Hid (m = ((valL (s.data.toList.take k) : Nat) : Int))) (fun _ i => s.size - (intOf i).toNat)
    case atStart => exact ⟨0, 0, rfl, by omega, rfl, by omega, by omega, by unfold Hid; decide, rfl⟩
    case round =>
      obtain ⟨k, m, rfl, hk, rfl, hm0, hm1, HP, HM⟩ := hrel
      by_cases hlt : k < s.size
      · obtain ⟨hkl, hke⟩ := dig_at hlt
        have hv1 := val_take hkl
        have hnd := read_nodig (l := s.data.toList) hkl
        rw [hke] at hv1 hnd
        obtain ⟨c, hc⟩ : ∃ c : Nat, s[k].toNat = c := ⟨_, rfl⟩
        have hc256 : c < 256 := by rw [← hc]; exact UInt8.toNat_lt _
        unfold isDig at hnd
        rw [hc] at hv1 hnd
        have hlt' : (k : Int) < (s.size : Int) := by omega
        have hci : (s[k].toNat : Int) = (c : Int) := by rw [hc]
        obtain ⟨z, hz⟩ : ∃ z : Int, (c : Int) = z := ⟨_, rfl⟩
        have hz0 : 0 ≤ z := by omega
        have hz1 : z ≤ 255 := by omega
        rw [hz] at hci
        by_cases h48 : z < 48
        · have HU : Hid (R = (0, false)) := by rw [← HR.out]; exact readD_no (hnd (by omega))
          clear hv1 hnd hz hc
          go_wp2_with fail
          go_ret2
          exact ⟨ret_rd HU.out, Below.refl _ _⟩
        · by_cases h57 : 57 < z
          · have HU : Hid (R = (0, false)) := by rw [← HR.out]; exact readD_no (hnd (by omega))
            clear hv1 hnd hz hc
            go_wp2_with fail
            go_ret2
            exact ⟨ret_rd HU.out, Below.refl _ _⟩
          · have HN : Hid (10 * m + z - 48 = ((valL (s.data.toList.take (k + 1)) : Nat) : Int)) := by have := HM.out; unfold Hid; omega
            have hpow : m < (10 : Int) ^ k := HP.out
            have HP2 : Hid (10 * m + z - 48 < (10 : Int) ^ (k + 1)) := by unfold Hid; rw [Int.pow_succ]; omega
            have hk9 : (10 : Int) ^ (k + 1) ≤ 10000000000 := by
              have : k + 1 ≤ 10 := by omega
              have h := Nat.pow_le_pow_right (n := 10) (by omega) this
              have e : ((10 ^ (k + 1) : Nat) : Int) = (10 : Int) ^ (k + 1) := by simp
              rw [← e]
              exact Int.ofNat_le.2 h
            have hb1 : 10 * m + z - 48 ≤ 10000000000 := by have := HP2.out; omega
            clear hv1 hnd hz hc hpow hk9
            go_wp2_with fail
            go_round
            case rel => exact ⟨k + 1, _, by go_num, by omega, rfl, by omega, by omega, HP2, HN⟩
            case measure => simp [intOf]; omega
      · obtain rfl : k = s.size := by omega
        have htk : s.data.toList.take s.size = s.data.toList := List.take_of_length_le (by simp)
        have hM := HM.out
        rw [htk] at hM
        by_cases hbig : (1000000000 : Int) < m
        · have HU : Hid (R = (0, false)) := by rw [← HR.out]; exact readD_big (by omega)
          clear hM htk
          go_wp2_with fail
          go_ret2
          exact ⟨ret_rd HU.out, Below.refl _ _⟩
        · obtain ⟨S, hS⟩ : ∃ S : ByteArray, (⟨(Lib.itoa m).toArray⟩ : ByteArray) = S := ⟨_, rfl⟩
          have HD : Hid (∀ w, Calls Tryd.prog 15 #[.int .i64 m] w fun e w' => e = .returned (.string S) ∧ Below w.heap.size w w') := fun w => by rw [← hS]; exact s_Decimal m (by omega) (by omega) w
          have hit : Lib.itoa m = Lib.decDigits (valL s.data.toList) := by rw [hM, Lib.itoa_nonneg]
          by_cases he : Lib.decDigits (valL s.data.toList) = s.data.toList
          · have HU : Hid (R = (m, true)) := by rw [← HR.out, hM]; exact readD_end he (by omega)
            have hSs : S = s := by rw [← hS]; exact mk_eq (hit.trans he)
            clear hS he hit hM htk
            go_wp2_with fail
            refine (HD.out _).mono ?_
            rintro e w2 ⟨rfl, hb2⟩
            rw [hSs]
            clear hSs
            go_wp2_with fail
            go_ret2
            exact ⟨ret_rd HU.out, hb2⟩
          · have HU : Hid (R = (0, false)) := by rw [← HR.out]; exact readD_no (read_end_no he)
            have hne := str_ne (a := S) (b := s) (by rw [← hS]; exact mk_ne (by rw [hit]; exact he))
            clear hS he hit hM htk
            go_wp2_with fail
            refine (HD.out _).mono ?_
            rintro e w2 ⟨rfl, hb2⟩
            go_wp2_with fail
            go_ret2
            exact ⟨ret_rd HU.out, hb2⟩

theorem walk_FnExactReadDecimal (a : ByteArray) (w : World) (_ha : a.size ≤ maxLen) (hSt : Tab w ∧ Errs w) : Calls Tryd.prog 7 #[.string a] w fun e w' => e = .returned (.bool true) ∧ Below w.heap.size w w' := by
  obtain ⟨hT, hE⟩ := hSt
  have HT := Lib.hid hT
  have HE := Lib.hid hE
  clear hT hE
  by_cases hl : (1048576 : Int) < (a.size : Int)
  · go_enter Tryd.func7, Tryd.ntmps7
    go_wp2
    go_ret
    exact ⟨rfl, Below.refl _ _⟩
  · obtain ⟨T, HS, HI⟩ : ∃ T : Int × Bool, Hid (∀ w, Calls Tryd.prog 23 #[.string a] w fun e w' => e = .returned (.tuple #[.int .i64 T.1, .bool T.2]) ∧ Below w.heap.size w w') ∧ Hid (∀ w, Tab w → Errs w → Calls Tryd.prog 24 #[.string a] w fun e w' => e = .returned (.tuple #[.int .i64 T.1, .bool T.2]) ∧ Below w.heap.size w w') := ⟨_, fun w => s_ReadDecimal a (by omega) w, fun w h1 h2 => i_ReadDecimal a (by omega) w h1 h2⟩
    go_enter Tryd.func7, Tryd.ntmps7
    go_wp2_with fail
    refine (HS.out _).mono ?_
    rintro e w1 ⟨rfl, hb1⟩
    go_wp2_with fail
    refine (HI.out _ (HT.out.below hb1) (HE.out.below hb1)).mono ?_
    rintro e w2 ⟨rfl, hb2⟩
    go_wp2_with fail
    go_ret
    exact ⟨rfl, hb1.trans (hb2.mono hb1.size)⟩
end Go.Proofs.YtpbflceekikbiaaDoor
