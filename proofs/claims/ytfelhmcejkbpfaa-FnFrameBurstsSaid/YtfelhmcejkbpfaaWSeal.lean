/-
  SumOf, Sealed, Unsealed (both sides) and the laws on SumMore, SumOf, Sealed, Unsealed. No conditions.
-/
import Derived.Test.YtfelhmcejkbpfaaWSum
import Derived.Test.YtfelhmcejkbpfaaWFix
import Derived.Deep.QuietTactic
import Derived.BigQuiet
import Derived.Deep.RegionWith
import Derived.WalkSmall
import Derived.Deep.RegionHeld3
import Derived.StillTailTactics
namespace Go.Proofs.Ytfelhmcejkbpfaa
open Go.ChangeShapes Go.WideShapes Go.ChangeAt Go.RowKit

theorem smV_F (l : List UInt8) : smV 4294967295 l = ((Crc.more Crc.F l : Nat) : Int) := if_pos ⟨by omega, by omega⟩
theorem sum_xor (l : List UInt8) : bits .xor .i64 ((Crc.more Crc.F l : Nat) : Int) 4294967295 = ((Crc.sumOf l : Nat) : Int) := by
  have := Crc.more_lt l (s := Crc.F) (by unfold Crc.F; omega)
  rw [show (4294967295 : Int) = ((4294967295 : Nat) : Int) from rfl, xor_i64 _ _ (by omega) (by omega)]
  rfl
theorem app_list (s : ByteArray) (l : List UInt8) : s ++ (⟨l.toArray⟩ : ByteArray) = ⟨(s.data.toList ++ l).toArray⟩ := by
  apply ByteArray.ext
  apply Array.toList_inj.1
  simp
theorem fix_sum (l : List UInt8) : fixText ((Crc.sumOf l : Nat) : Int) 4 = Crc.fix 4 (Crc.sumOf l) := by
  refine if_pos ⟨by omega, by omega, by omega, ?_⟩
  show Crc.sumOf l < 256 ^ 4
  exact Crc.sumOf_lt l
def sealR (s : ByteArray) : ByteArray × Bool := if s.size ≤ 20000 then (⟨(Crc.sealedL s.data.toList).toArray⟩, true) else (⟨#[]⟩, false)
theorem ret_sb {a : ByteArray} {b : Bool} {r : ByteArray × Bool} (h : r = (a, b)) : Ending.returned (.tuple #[.string a, .bool b]) = .returned (.tuple #[.string r.1, .bool r.2]) := by rw [h]
theorem list_size (s : ByteArray) : s.data.toList.length = s.size := by simp


theorem s_SumOf (s : ByteArray) (hs : s.size ≤ 2147483648) (w : World) : Calls Try.prog 21 #[.string s] w fun e w' => e = .returned (.int .i64 ((Crc.sumOf s.data.toList : Nat) : Int)) ∧ w = w' := by
  obtain ⟨M, hM⟩ : ∃ M, Crc.more Crc.F s.data.toList = M := ⟨_, rfl⟩
  have hv := sum_xor s.data.toList
  have HM : Hid (smV 4294967295 s.data.toList = (M : Int)) := by rw [smV_F, hM]; rfl
  obtain ⟨Z, hZ⟩ : ∃ Z, Crc.sumOf s.data.toList = Z := ⟨_, rfl⟩
  rw [hM, hZ] at hv
  rw [hZ]
  clear hM hZ
  go_enter Try.func21, Try.ntmps21
  go_wp2_with (go_at_call 19; refine (s_SumMore _ _ hs _).mono ?_; rintro e w' ⟨rfl, rfl⟩; rw [HM.out])
  go_ret
  exact ⟨ret_i (by first | rfl | exact hv), rfl⟩

theorem s_Sealed (s : ByteArray) (hs : s.size ≤ 2147483648) (w : World) : Calls Try.prog 23 #[.string s] w fun e w' => e = .returned (.tuple #[.string (sealR s).1, .bool (sealR s).2]) ∧ Below w.heap.size w w' := by
  by_cases h : (20000 : Int) < (s.size : Int)
  · have HR : Hid (sealR s = (⟨#[]⟩, false)) := if_neg (by omega)
    go_enter Try.func23, Try.ntmps23
    go_wp2_with fail
    go_ret2
    exact ⟨ret_sb HR.out, Below.refl _ _⟩
  · obtain ⟨F, hF⟩ : ∃ F, Crc.fix 4 (Crc.sumOf s.data.toList) = F := ⟨_, rfl⟩
    have hF4 : F.length ≤ 4 := by rw [← hF, Crc.fix_length]; omega
    have HR : Hid (sealR s = (⟨(s.data.toList ++ F).toArray⟩, true)) := by unfold Hid sealR; rw [if_pos (by omega), ← hF]; rfl
    have HF : Hid (fixText ((Crc.sumOf s.data.toList : Nat) : Int) 4 = F) := by rw [fix_sum, hF]; rfl
    have hlt := Crc.sumOf_lt s.data.toList
    clear hF
    go_enter Try.func23, Try.ntmps23
    go_wp2_with fail
    refine (s_SumOf s (by omega) _).mono ?_
    rintro e w' ⟨rfl, rfl⟩
    go_wp2_with fail
    refine (s_FixedText _ _ (by omega) _).mono ?_
    rintro e w1 ⟨rfl, hb⟩
    rw [HF.out]
    go_wp2_with fail
    go_ret2
    exact ⟨ret_sb (HR.out.trans (by rw [app_list])), hb⟩


theorem i_SumOf (s : ByteArray) (hs : s.size ≤ 2147483648) (w : World) : Calls Try.prog 22 #[.string s] w fun e w' => e = .returned (.int .i64 ((Crc.sumOf s.data.toList : Nat) : Int)) ∧ w = w' := by
  obtain ⟨M, hM⟩ : ∃ M, Crc.more Crc.F s.data.toList = M := ⟨_, rfl⟩
  have hv := sum_xor s.data.toList
  have HM : Hid (smV 4294967295 s.data.toList = (M : Int)) := by rw [smV_F, hM]; rfl
  obtain ⟨Z, hZ⟩ : ∃ Z, Crc.sumOf s.data.toList = Z := ⟨_, rfl⟩
  rw [hM, hZ] at hv
  rw [hZ]
  clear hM hZ
  go_enter Try.func22, Try.ntmps22
  go_wp2_with (go_at_call 20; refine (i_SumMore _ _ hs _).mono ?_; rintro e w' ⟨rfl, rfl⟩; rw [HM.out])
  go_ret
  exact ⟨ret_i (by first | rfl | exact hv), rfl⟩

theorem i_Sealed (s : ByteArray) (hs : s.size ≤ 2147483648) (w : World) : Calls Try.prog 24 #[.string s] w fun e w' => e = .returned (.tuple #[.string (sealR s).1, .bool (sealR s).2]) ∧ Below w.heap.size w w' := by
  by_cases h : (20000 : Int) < (s.size : Int)
  · have HR : Hid (sealR s = (⟨#[]⟩, false)) := if_neg (by omega)
    go_enter Try.func24, Try.ntmps24
    go_wp2_with fail
    go_ret2
    exact ⟨ret_sb HR.out, Below.refl _ _⟩
  · obtain ⟨F, hF⟩ : ∃ F, Crc.fix 4 (Crc.sumOf s.data.toList) = F := ⟨_, rfl⟩
    have hF4 : F.length ≤ 4 := by rw [← hF, Crc.fix_length]; omega
    have HR : Hid (sealR s = (⟨(s.data.toList ++ F).toArray⟩, true)) := by unfold Hid sealR; rw [if_pos (by omega), ← hF]; rfl
    have HF : Hid (fixText ((Crc.sumOf s.data.toList : Nat) : Int) 4 = F) := by rw [fix_sum, hF]; rfl
    have hlt := Crc.sumOf_lt s.data.toList
    clear hF
    go_enter Try.func24, Try.ntmps24
    go_wp2_with fail
    refine (i_SumOf s (by omega) _).mono ?_
    rintro e w' ⟨rfl, rfl⟩
    go_wp2_with fail
    refine (i_FixedText _ _ (by omega) _).mono ?_
    rintro e w1 ⟨rfl, hb⟩
    rw [HF.out]
    go_wp2_with fail
    go_ret2
    exact ⟨ret_sb (HR.out.trans (by rw [app_list])), hb⟩


def unsealR (s : ByteArray) : ByteArray × Bool :=
  if 4 ≤ s.size ∧ s.size ≤ 20004 ∧ Crc.sealedL (s.data.toList.take (s.size - 4)) = s.data.toList then (s.extract 0 (s.size - 4), true) else (⟨#[]⟩, false)
theorem ext_to (s : ByteArray) (k : Nat) : (s.extract 0 k).data.toList = s.data.toList.take k := by simp
theorem ext_from (s : ByteArray) (k : Nat) : (s.extract k s.size).toList = s.data.toList.drop k := by
  rw [ByteArray.toList_eq]
  simp [List.take_of_length_le]
theorem ext_size (s : ByteArray) (k : Nat) (h : k ≤ s.size) : (s.extract 0 k).size = k := by
  rw [← list_size, ext_to, List.length_take, list_size]; omega

theorem i_Unsealed (s : ByteArray) (hs : s.size ≤ 2147483648) (w : World) : Calls Try.prog 26 #[.string s] w fun e w' => e = .returned (.tuple #[.string (unsealR s).1, .bool (unsealR s).2]) ∧ Below w.heap.size w w' := by
  by_cases h4 : (s.size : Int) - 4 < 0
  · have HR : Hid (unsealR s = (⟨#[]⟩, false)) := if_neg (by omega)
    go_enter Try.func26, Try.ntmps26
    go_wp2_with fail
    go_ret2
    exact ⟨ret_sb HR.out, Below.refl _ _⟩
  · have hk : (s.extract 0 (s.size - 4)).size = s.size - 4 := ext_size _ _ (by omega)
    by_cases h5 : s.size ≤ 20004
    · obtain ⟨Z, hZ⟩ : ∃ Z, Crc.sealedL (s.data.toList.take (s.size - 4)) = Z := ⟨_, rfl⟩
      have HS : Hid (sealR (s.extract 0 (s.size - 4)) = (⟨Z.toArray⟩, true)) := by
        unfold Hid sealR
        rw [if_pos (by omega), ext_to, hZ]
      have hts : s.toList = s.data.toList := ByteArray.toList_eq s
      by_cases he : Z = s.data.toList
      · have HR : Hid (unsealR s = (s.extract 0 (s.size - 4), true)) := if_pos ⟨by omega, h5, by rw [hZ]; exact he⟩
        have ht : (Z == s.toList) = true := by rw [hts, he]; exact beq_self_eq_true _
        clear hZ he hts
        go_enter Try.func26, Try.ntmps26
        go_wp2_with fail
        refine (i_Sealed _ (by omega) _).mono ?_
        rintro e w1 ⟨rfl, hb⟩
        rw [HS.out]
        clear hk
        go_wp2_with fail
        go_ret2
        exact ⟨ret_sb HR.out, hb⟩
      · have HR : Hid (unsealR s = (⟨#[]⟩, false)) := if_neg (fun hc => he (by rw [← hZ]; exact hc.2.2))
        have ht : (Z == s.toList) = false := by rw [hts]; exact beq_eq_false_iff_ne.2 he
        clear hZ he hts
        go_enter Try.func26, Try.ntmps26
        go_wp2_with fail
        refine (i_Sealed _ (by omega) _).mono ?_
        rintro e w1 ⟨rfl, hb⟩
        rw [HS.out]
        clear hk
        go_wp2_with fail
        go_ret2
        exact ⟨ret_sb HR.out, hb⟩
    · have HS : Hid (sealR (s.extract 0 (s.size - 4)) = (⟨#[]⟩, false)) := if_neg (by omega)
      have HR : Hid (unsealR s = (⟨#[]⟩, false)) := if_neg (fun hc => h5 hc.2.1)
      go_enter Try.func26, Try.ntmps26
      go_wp2_with fail
      refine (i_Sealed _ (by omega) _).mono ?_
      rintro e w1 ⟨rfl, hb⟩
      rw [HS.out]
      clear hk
      go_wp2_with fail
      go_ret2
      exact ⟨ret_sb HR.out, hb⟩

set_option maxHeartbeats 400000 in
theorem s_Unsealed (s : ByteArray) (hs : s.size ≤ 2147483648) (w : World) : Calls Try.prog 25 #[.string s] w fun e w' => e = .returned (.tuple #[.string (unsealR s).1, .bool (unsealR s).2]) ∧ Below w.heap.size w w' := by
  by_cases h4 : (s.size : Int) - 4 < 0
  · have HR : Hid (unsealR s = (⟨#[]⟩, false)) := if_neg (by omega)
    go_enter Try.func25, Try.ntmps25
    go_wp2_with fail
    go_quiet (fail)
    go_wp2_with fail
    go_ret2
    exact ⟨ret_sb HR.out, below_drewN (Below.refl _ _) _⟩
  · by_cases h5 : (20000 : Int) < (s.size : Int) - 4
    · have HR : Hid (unsealR s = (⟨#[]⟩, false)) := if_neg (by omega)
      have h4' : decide ((s.size : Int) - 4 < 0) = false := by simpa using h4
      go_enter Try.func25, Try.ntmps25
      go_wp2_with fail
      go_quiet (fail)
      go_wp2_with fail
      go_ret2
      exact ⟨ret_sb HR.out, below_drewN (Below.refl _ _) _⟩
    · have hk : (s.extract 0 (s.size - 4)).size = s.size - 4 := ext_size _ _ (by omega)
      obtain ⟨C, hC⟩ : ∃ C, Crc.sumOf (s.data.toList.take (s.size - 4)) = C := ⟨_, rfl⟩
      have hlt := Crc.sumOf_lt (s.data.toList.take (s.size - 4))
      rw [hC] at hlt
      obtain ⟨F, hF⟩ : ∃ F, Crc.fix 4 C = F := ⟨_, rfl⟩
      have HSum : Hid (∀ w, Calls Try.prog 21 #[.string (s.extract 0 (s.size - 4))] w fun e w' => e = .returned (.int .i64 (C : Int)) ∧ w = w') := fun w => by
        have := s_SumOf (s.extract 0 (s.size - 4)) (by omega) w
        rw [ext_to, hC] at this
        exact this
      have HFix : Hid (∀ w, Calls Try.prog 49 #[.int .i64 (C : Int), .int .i64 4] w fun e w' => e = .returned (.string ⟨F.toArray⟩) ∧ Below w.heap.size w w') := fun w => by
        have := s_FixedText (C : Int) 4 (by omega) w
        rw [← hC, fix_sum, hC, hF] at this
        exact this
      have HE : Hid (Crc.sealedL (s.data.toList.take (s.size - 4)) = s.data.toList ↔ (s.extract (s.size - 4) s.size).toList = F) := by
        unfold Hid
        rw [ext_from]
        unfold Crc.sealedL
        rw [hC, hF]
        constructor
        · intro h
          have h2 : s.data.toList.take (s.size - 4) ++ s.data.toList.drop (s.size - 4) = s.data.toList := List.take_append_drop _ _
          exact (List.append_cancel_left (h.trans h2.symm)).symm
        · intro h
          rw [← h]
          exact List.take_append_drop _ _
      obtain ⟨T, hT⟩ : ∃ T, s.extract (s.size - 4) s.size = T := ⟨_, rfl⟩
      obtain ⟨U0, hU⟩ : ∃ U0, s.extract 0 (s.size - 4) = U0 := ⟨_, rfl⟩
      have h4' : decide ((s.size : Int) - 4 < 0) = false := by simpa using h4
      have h5' : decide ((20000 : Int) < (s.size : Int) - 4) = false := by simpa using h5
      have hs1 : ∀ w, (Instr.slice 9 (.string s) (some (.int .i64 ((s.size : Int) - 4))) none none).run Try.prog w = .ok (.string T) w := fun w => by
        rw [run_slice_string_from_if w 9 s .i64 _ Try.underlying9, if_pos ⟨by omega, by omega⟩, show ((s.size : Int) - 4).toNat = s.size - 4 by omega, hT]
      have hs2 : ∀ w, (Instr.slice 9 (.string s) none (some (.int .i64 ((s.size : Int) - 4))) none).run Try.prog w = .ok (.string U0) w := fun w => by
        rw [run_slice_string_to_if w 9 s .i64 _ Try.underlying9, if_pos ⟨by omega, by omega⟩, show ((s.size : Int) - 4).toNat = s.size - 4 by omega, hU]
      rw [hU] at HSum
      rw [hT] at HE
      have HR : Hid (unsealR s = if T.toList = F then (U0, true) else (⟨#[]⟩, false)) := by
        unfold Hid unsealR
        by_cases he : T.toList = F
        · rw [if_pos he, if_pos ⟨by omega, by omega, HE.out.2 he⟩, hU]
        · rw [if_neg he, if_neg (fun hc => he (HE.out.1 hc.2.2))]
      clear hC hF hU hT hk hlt HE
      by_cases he : T.toList = F
      · have HR2 : Hid (unsealR s = (U0, true)) := by unfold Hid; rw [HR.out, if_pos he]
        have ht : (T.toList == F) = true := by rw [he]; exact beq_self_eq_true _
        clear he HR
        go_enter Try.func25, Try.ntmps25
        go_wp2_with fail
        go_region_held3 (fun _ : World => True) (exact trivial) (first | (go_at_call 21; refine (HSum.out _).mono ?_; rintro e w' ⟨rfl, rfl⟩) | (go_at_call 49; refine (HFix.out _).mono ?_; rintro e w1 ⟨rfl, hb⟩))
        go_wp2_with fail
        go_ret2
        exact ⟨ret_sb HR2.out, by first | exact hb | exact (below_drewN (Below.refl _ _) 1).trans hb | exact ((Below.refl _ _).drew).trans hb⟩
      · have HR2 : Hid (unsealR s = (⟨#[]⟩, false)) := by unfold Hid; rw [HR.out, if_neg he]
        have ht : (T.toList == F) = false := beq_eq_false_iff_ne.2 he
        clear he HR
        go_enter Try.func25, Try.ntmps25
        go_wp2_with fail
        go_region_held3 (fun _ : World => True) (exact trivial) (first | (go_at_call 21; refine (HSum.out _).mono ?_; rintro e w' ⟨rfl, rfl⟩) | (go_at_call 49; refine (HFix.out _).mono ?_; rintro e w1 ⟨rfl, hb⟩))
        go_wp2_with fail
        go_ret2
        exact ⟨ret_sb HR2.out, by first | exact hb | exact (below_drewN (Below.refl _ _) 1).trans hb | exact ((Below.refl _ _).drew).trans hb⟩

theorem walk_FnExactSumMore (n : Int) (a : ByteArray) (w : World) (_hn : (Lit.int .i64 n).wf = true) (_ha : a.size ≤ maxLen) : Calls Try.prog 4 #[.int .i64 n, .string a] w fun e w' => e = .returned (.bool true) ∧ Below w.heap.size w w' := by
  by_cases hl : (1048576 : Int) < (a.size : Int)
  · go_enter Try.func4, Try.ntmps4
    go_wp2
    go_ret
    exact ⟨rfl, Below.refl _ _⟩
  · go_enter Try.func4, Try.ntmps4
    go_wp2_with (first | (go_at_call 19; refine (s_SumMore _ _ (by omega) _).mono ?_; rintro e w' ⟨rfl, rfl⟩) | (go_at_call 20; refine (i_SumMore _ _ (by omega) _).mono ?_; rintro e w' ⟨rfl, rfl⟩))
    go_ret
    exact ⟨rfl, Below.refl _ _⟩


theorem walk_FnExactSumOf (a : ByteArray) (w : World) (_ha : a.size ≤ maxLen) : Calls Try.prog 5 #[.string a] w fun e w' => e = .returned (.bool true) ∧ Below w.heap.size w w' := by
  by_cases hl : (1048576 : Int) < (a.size : Int)
  · go_enter Try.func5, Try.ntmps5
    go_wp2
    go_ret
    exact ⟨rfl, Below.refl _ _⟩
  · go_enter Try.func5, Try.ntmps5
    go_wp2_with (first | (go_at_call 21; refine (s_SumOf _ (by omega) _).mono ?_; rintro e w' ⟨rfl, rfl⟩) | (go_at_call 22; refine (i_SumOf _ (by omega) _).mono ?_; rintro e w' ⟨rfl, rfl⟩))
    go_ret
    exact ⟨rfl, Below.refl _ _⟩


theorem walk_FnExactSealed (a : ByteArray) (w : World) (_ha : a.size ≤ maxLen) : Calls Try.prog 6 #[.string a] w fun e w' => e = .returned (.bool true) ∧ Below w.heap.size w w' := by
  by_cases hl : (1048576 : Int) < (a.size : Int)
  · go_enter Try.func6, Try.ntmps6
    go_wp2
    go_ret
    exact ⟨rfl, Below.refl _ _⟩
  · go_enter Try.func6, Try.ntmps6
    go_wp2_with (first | (go_at_call 23; refine (s_Sealed _ (by omega) _).mono ?_; rintro e w1 ⟨rfl, hb1⟩) | (go_at_call 24; refine (i_Sealed _ (by omega) _).mono ?_; rintro e w2 ⟨rfl, hb2⟩))
    go_ret
    exact ⟨rfl, hb1.trans (hb2.mono hb1.size)⟩


theorem walk_FnExactUnsealed (a : ByteArray) (w : World) (_ha : a.size ≤ maxLen) : Calls Try.prog 7 #[.string a] w fun e w' => e = .returned (.bool true) ∧ Below w.heap.size w w' := by
  by_cases hl : (1048576 : Int) < (a.size : Int)
  · go_enter Try.func7, Try.ntmps7
    go_wp2
    go_ret
    exact ⟨rfl, Below.refl _ _⟩
  · go_enter Try.func7, Try.ntmps7
    go_wp2_with (first | (go_at_call 25; refine (s_Unsealed _ (by omega) _).mono ?_; rintro e w1 ⟨rfl, hb1⟩) | (go_at_call 26; refine (i_Unsealed _ (by omega) _).mono ?_; rintro e w2 ⟨rfl, hb2⟩))
    go_ret
    exact ⟨rfl, hb1.trans (hb2.mono hb1.size)⟩

end Go.Proofs.Ytfelhmcejkbpfaa
