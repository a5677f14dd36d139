/-
  ReadAmount and CompareAmounts (both sides) and their laws. No conditions beyond the listed variables' places.
-/
import Derived.Test.YtpbflceekikbiaaDoorWRInt
import Derived.Test.YtpbflceekikbiaaDoorAmt
import Derived.Test.YtpbflceekikbiaaDoorWB
namespace Go.Proofs.YtpbflceekikbiaaDoor
open Go.ChangeShapes Go.WideShapes Go.ChangeAt Go.RowKit Go.Proofs.YtpbflceekikbiaaDoor.Dec

theorem unit_b (s : ByteArray) : 0 ≤ (unitR s).1 ∧ (unitR s).1 ≤ 9223372036854775807 := by
  unfold unitR
  split
  · rename_i h
    have : ∀ j, j < 10 → 0 ≤ unitsL.getD j 0 ∧ unitsL.getD j 0 ≤ 9223372036854775807 := by decide
    exact this _ h
  · decide
theorem readI_b (l : List UInt8) : 0 ≤ (readI l).1 ∧ (readI l).1 ≤ 9223372036854775807 := by
  unfold readI
  split
  · rename_i h
    have := h.2
    exact ⟨by simp only []; omega, by simp only []; omega⟩
  · decide
theorem headZ_take {l : List UInt8} {d : Nat} (h : 0 < d) : headZ (l.take d) = headZ l := by
  unfold headZ
  rw [List.head?_take, if_neg (by omega)]
theorem headZ_at {s : ByteArray} (h : 0 < s.size) : headZ s.data.toList = ((s[0].toNat : Int) == 48) := by
  have hl : 0 < s.data.toList.length := by simpa using h
  have e : s.data.toList.head? = some s[0] := by
    rw [List.head?_eq_getElem?, List.getElem?_eq_getElem hl]
    simp
    rfl
  unfold headZ
  rw [e]
  rw [Bool.eq_iff_iff, beq_iff_eq, beq_iff_eq]
  constructor
  · intro h
    injection h with h
    rw [h]
    rfl
  · intro h
    congr 1
    apply UInt8.toNat_inj.1
    show _ = 48
    omega
theorem ret_ra {a b : Int} {r : Int × Int} (h : r = (a, b)) : Ending.returned (.tuple #[.int .i64 a, .int .i64 b]) = .returned (.tuple #[.int .i64 r.1, .int .i64 r.2]) := by rw [h]
theorem amt_bad {s D : ByteArray} {uo mo vo : Bool} {v : Int} {d : Nat} {R : Int × Int}
    (hA : R = if 40 < s.size ∨ d = 0 ∨ (1 < d ∧ headZ D.data.toList = true) ∨ uo = false then (0, 1) else if mo = false ∨ vo = false then (0, 2) else (v, 0))
    (h : 40 < s.size ∨ d = 0 ∨ (1 < d ∧ headZ D.data.toList = true) ∨ uo = false) : R = (0, 1) := by rw [hA, if_pos h]
theorem amt_big {s D : ByteArray} {uo mo vo : Bool} {v : Int} {d : Nat} {R : Int × Int}
    (hA : R = if 40 < s.size ∨ d = 0 ∨ (1 < d ∧ headZ D.data.toList = true) ∨ uo = false then (0, 1) else if mo = false ∨ vo = false then (0, 2) else (v, 0))
    (h : ¬ (40 < s.size ∨ d = 0 ∨ (1 < d ∧ headZ D.data.toList = true) ∨ uo = false)) (h2 : mo = false ∨ vo = false) : R = (0, 2) := by rw [hA, if_neg h, if_pos h2]
theorem amt_ok {s D : ByteArray} {uo mo vo : Bool} {v : Int} {d : Nat} {R : Int × Int}
    (hA : R = if 40 < s.size ∨ d = 0 ∨ (1 < d ∧ headZ D.data.toList = true) ∨ uo = false then (0, 1) else if mo = false ∨ vo = false then (0, 2) else (v, 0))
    (h : ¬ (40 < s.size ∨ d = 0 ∨ (1 < d ∧ headZ D.data.toList = true) ∨ uo = false)) (h2 : ¬ (mo = false ∨ vo = false)) : R = (v, 0) := by rw [hA, if_neg h, if_neg h2]
/-- What the walk of one side needs: the parts, the unit, the number, the product, and the answer in those words. -/
theorem amt_split (s : ByteArray) : ∃ (R : Int × Int) (d : Nat) (D U : ByteArray) (k m v : Int) (uo mo vo : Bool), readAmt s = R ∧ dn s.data.toList = d ∧ d ≤ s.size ∧ s.extract 0 d = D ∧ s.extract d s.size = U ∧ D.size = d ∧ unitR U = (k, uo) ∧ readI D.data.toList = (m, mo) ∧ mulV m k = v ∧ mulB m k = vo ∧ (0 ≤ k ∧ k ≤ 9223372036854775807) ∧ (0 ≤ m ∧ m ≤ 9223372036854775807) ∧ R = if 40 < s.size ∨ d = 0 ∨ (1 < d ∧ headZ D.data.toList = true) ∨ uo = false then (0, 1) else if mo = false ∨ vo = false then (0, 2) else (v, 0) := by
  have hdl : dn s.data.toList ≤ s.size := by simpa using dn_le s.data.toList
  have hD : (s.extract 0 (dn s.data.toList)).data.toList = s.data.toList.take (dn s.data.toList) := by rw [ByteArray.data_extract, Array.toList_extract]; simp [List.extract]
  refine ⟨_, _, _, _, _, _, _, _, _, _, rfl, rfl, hdl, rfl, rfl, by simp; omega, (Prod.eta _).symm, (Prod.eta _).symm, rfl, rfl, unit_b _, readI_b _, ?_⟩
  rw [hD]
  unfold readAmt
  congr 1
  apply propext
  constructor
  · rintro (h | h | ⟨h, h2⟩ | h)
    · exact .inl h
    · exact .inr (.inl h)
    · exact .inr (.inr (.inl ⟨h, by rw [headZ_take (by omega)]; exact h2⟩))
    · exact .inr (.inr (.inr h))
  · rintro (h | h | ⟨h, h2⟩ | h)
    · exact .inl h
    · exact .inr (.inl h)
    · exact .inr (.inr (.inl ⟨h, by rw [headZ_take (by omega)] at h2; exact h2⟩))
    · exact .inr (.inr (.inr h))

set_option maxHeartbeats 4000000 in
theorem s_ReadAmount (s : ByteArray) (hs : s.size ≤ 2147483648) (w : World) : Calls Tryd.prog 34 #[.string s] w fun e w' => e = .returned (.tuple #[.int .i64 (readAmt s).1, .int .i64 (readAmt s).2]) ∧ Below w.heap.size w w' := by
  obtain ⟨R, d, D, U, k, m, v, uo, mo, vo, hR, hd, hdl, hD, hU, hDs, hun, hrd, hv, hvo, ⟨hk0, hk1⟩, ⟨hm0, hm1⟩, hA⟩ := amt_split s
  rw [hR]
  clear hR
  have HS : Hid (∀ w, Calls Tryd.prog 53 #[.string s] w fun e w' => e = .returned (.tuple #[.string D, .string U]) ∧ Below w.heap.size w w') := fun w => by
    have := s_SplitAmount s hs w
    rw [hd, hD, hU] at this
    exact this
  have HN : Hid (∀ w, Calls Tryd.prog 54 #[.string U] w fun e w' => e = .returned (.tuple #[.int .i64 k, .bool uo]) ∧ Below w.heap.size w w') := fun w => by
    have := s_UnitOf U w
    rw [hun] at this
    exact this
  have HI : Hid (∀ w, Calls Tryd.prog 21 #[.string D] w fun e w' => e = .returned (.tuple #[.int .i64 m, .bool mo]) ∧ Below w.heap.size w w') := fun w => by
    have := s_ReadInt D (by omega) w
    rw [hrd] at this
    exact this
  have HM : Hid (∀ w, Calls Tryd.prog 28 #[.int .i64 m, .int .i64 k] w fun e w' => e = .returned (.tuple #[.int .i64 v, .bool vo]) ∧ w = w') := fun w => by
    have := s_MulInt m k (by omega) (by omega) w
    rw [hv, hvo] at this
    exact this
  have HA := Lib.hid hA
  clear hA hd hD hU hun hrd hv hvo
  by_cases hl : (40 : Int) < (s.size : Int)
  · have HU : Hid (R = (0, 1)) := amt_bad HA.out (.inl (by omega))
    clear HA
    go_enter Tryd.func34, Tryd.ntmps34
    go_wp2_with fail
    go_ret2
    exact ⟨ret_ra HU.out, Below.refl _ _⟩
  by_cases hd0 : d = 0
  · have HU : Hid (R = (0, 1)) := amt_bad HA.out (.inr (.inl hd0))
    have hDe : (D.toList == ([] : List UInt8)) = true := by
      rw [beq_iff_eq, ByteArray.toList_eq]
      apply List.eq_nil_of_length_eq_zero
      simpa [hd0] using hDs
    clear HA
    go_enter Tryd.func34, Tryd.ntmps34
    go_wp2_with fail
    refine (HS.out _).mono ?_
    rintro e w1 ⟨rfl, hb1⟩
    go_wp2_with fail
    refine (HN.out _).mono ?_
    rintro e w2 ⟨rfl, hb2⟩
    have hg2 := hb1.trans (hb2.mono hb1.size)
    go_wp2_with fail
    go_ret2
    exact ⟨ret_ra HU.out, hg2⟩
  have hD0 : 0 < D.size := by omega
  have hDe : (D.toList == ([] : List UInt8)) = false := by
    rw [beq_eq_false_iff_ne, ByteArray.toList_eq]
    intro h
    have h2 : D.data.toList.length = D.size := Array.length_toList
    rw [h, List.length_nil] at h2
    omega
  obtain ⟨z, hz⟩ : ∃ z, ((D[0].toNat : Int) == 48) = z := ⟨_, rfl⟩
  have hzz : headZ D.data.toList = z := by rw [headZ_at hD0, hz]
  by_cases hb : d = 1 ∨ z = false
  case neg =>
    have hdn : d ≠ 1 := fun h => hb (.inl h)
    have hd1 : (1 : Int) < (D.size : Int) := by omega
    obtain rfl : z = true := by cases z <;> simp_all
    have HU : Hid (R = (0, 1)) := amt_bad HA.out (.inr (.inr (.inl ⟨by omega, hzz⟩)))
    clear HA hb hzz
    go_enter Tryd.func34, Tryd.ntmps34
    go_wp2_with fail
    refine (HS.out _).mono ?_
    rintro e w1 ⟨rfl, hb1⟩
    go_wp2_with fail
    refine (HN.out _).mono ?_
    rintro e w2 ⟨rfl, hb2⟩
    have hg2 := hb1.trans (hb2.mono hb1.size)
    go_wp2_with fail
    go_ret2
    exact ⟨ret_ra HU.out, hg2⟩
  have hb' : ¬ ((1 : Int) < (D.size : Int)) ∨ ((1 : Int) < (D.size : Int) ∧ z = false) := by
    rcases hb with h | h
    · exact .inl (by omega)
    · by_cases h1 : (1 : Int) < (D.size : Int)
      · exact .inr ⟨h1, h⟩
      · exact .inl h1
  have hnz : ¬ (1 < d ∧ headZ D.data.toList = true) := by
    rw [hzz]
    rintro ⟨h1, h2⟩
    rcases hb with h | h
    · omega
    · rw [h] at h2; cases h2
  clear hzz hb
  cases uo with
  | false =>
    have HU : Hid (R = (0, 1)) := amt_bad HA.out (.inr (.inr (.inr rfl)))
    clear HA hnz
    rcases hb' with h1 | ⟨h1, rfl⟩
    all_goals
      go_enter Tryd.func34, Tryd.ntmps34
      go_wp2_with fail
      refine (HS.out _).mono ?_
      rintro e w1 ⟨rfl, hb1⟩
      go_wp2_with fail
      refine (HN.out _).mono ?_
      rintro e w2 ⟨rfl, hb2⟩
      have hg2 := hb1.trans (hb2.mono hb1.size)
      go_wp2_with fail
      go_ret2
      exact ⟨ret_ra HU.out, hg2⟩
  | true =>
    have hno : ¬ (40 < s.size ∨ d = 0 ∨ (1 < d ∧ headZ D.data.toList = true) ∨ true = false) := by
      simp only [not_or]
      exact ⟨by omega, hd0, hnz, by decide⟩
    have HU : Hid (R = if mo = false ∨ vo = false then (0, 2) else (v, 0)) := by rw [HA.out, if_neg hno]; rfl
    clear HA hnz hno
    cases mo <;> cases vo
    all_goals
      have HV := Lib.hid HU.out
      clear HU
      rcases hb' with h1 | ⟨h1, rfl⟩
    all_goals
      go_enter Tryd.func34, Tryd.ntmps34
      go_wp2_with fail
      refine (HS.out _).mono ?_
      rintro e w1 ⟨rfl, hb1⟩
      go_wp2_with fail
      refine (HN.out _).mono ?_
      rintro e w2 ⟨rfl, hb2⟩
      have hg2 := hb1.trans (hb2.mono hb1.size)
      go_wp2_with fail
      refine (HI.out _).mono ?_
      rintro e w3 ⟨rfl, hb3⟩
      have hg3 := hg2.trans (hb3.mono hg2.size)
      go_wp2_with (go_at_call 28; refine (HM.out _).mono ?_; rintro e w4 ⟨rfl, rfl⟩)
      go_ret2
      exact ⟨ret_ra HV.out, hg3⟩

set_option maxHeartbeats 4000000 in
theorem i_ReadAmount (s : ByteArray) (hs : s.size ≤ 2147483648) (w : World) (hT : Tab w) (hE : Errs w) : Calls Tryd.prog 35 #[.string s] w fun e w' => e = .returned (.tuple #[.int .i64 (readAmt s).1, .int .i64 (readAmt s).2]) ∧ Below w.heap.size w w' := by
  have HT := Lib.hid hT
  have HE := Lib.hid hE
  clear hT hE
  obtain ⟨R, d, D, U, k, m, v, uo, mo, vo, hR, hd, hdl, hD, hU, hDs, hun, hrd, hv, hvo, ⟨hk0, hk1⟩, ⟨hm0, hm1⟩, hA⟩ := amt_split s
  rw [hR]
  clear hR
  have HS : Hid (∀ w, Calls Tryd.prog 41 #[.string s] w fun e w' => e = .returned (.tuple #[.string D, .string U]) ∧ Below w.heap.size w w') := fun w => by
    have := i_SplitAmount s hs w
    rw [hd, hD, hU] at this
    exact this
  have HN : Hid (∀ w, Calls Tryd.prog 55 #[.string U] w fun e w' => e = .returned (.tuple #[.int .i64 k, .bool uo]) ∧ Below w.heap.size w w') := fun w => by
    have := i_UnitOf U w
    rw [hun] at this
    exact this
  have HI : Hid (∀ w, Tab w → Errs w → Calls Tryd.prog 22 #[.string D] w fun e w' => e = .returned (.tuple #[.int .i64 m, .bool mo]) ∧ Below w.heap.size w w') := fun w h1 h2 => by
    have := i_ReadInt D (by omega) w h1 h2
    rw [hrd] at this
    exact this
  have HM : Hid (∀ w, Calls Tryd.prog 49 #[.int .i64 m, .int .i64 k] w fun e w' => e = .returned (.tuple #[.int .i64 v, .bool vo]) ∧ w = w') := fun w => by
    have := i_MulInt m k (by omega) (by omega) w
    rw [hv, hvo] at this
    exact this
  have HA := Lib.hid hA
  clear hA hd hD hU hun hrd hv hvo
  by_cases hl : (40 : Int) < (s.size : Int)
  · have HU : Hid (R = (0, 1)) := amt_bad HA.out (.inl (by omega))
    clear HA
    go_enter Tryd.func35, Tryd.ntmps35
    go_wp2_with fail
    refine (HS.out _).mono ?_
    rintro e w1 ⟨rfl, hb1⟩
    go_wp2_with fail
    refine (HN.out _).mono ?_
    rintro e w2 ⟨rfl, hb2⟩
    have hg2 := hb1.trans (hb2.mono hb1.size)
    go_wp2_with fail
    go_ret2
    exact ⟨ret_ra HU.out, hg2⟩
  by_cases hd0 : d = 0
  · have HU : Hid (R = (0, 1)) := amt_bad HA.out (.inr (.inl hd0))
    have hDe : (D.toList == ([] : List UInt8)) = true := by
      rw [beq_iff_eq, ByteArray.toList_eq]
      apply List.eq_nil_of_length_eq_zero
      simpa [hd0] using hDs
    clear HA
    go_enter Tryd.func35, Tryd.ntmps35
    go_wp2_with fail
    refine (HS.out _).mono ?_
    rintro e w1 ⟨rfl, hb1⟩
    go_wp2_with fail
    refine (HN.out _).mono ?_
    rintro e w2 ⟨rfl, hb2⟩
    have hg2 := hb1.trans (hb2.mono hb1.size)
    go_wp2_with fail
    go_ret2
    exact ⟨ret_ra HU.out, hg2⟩
  have hD0 : 0 < D.size := by omega
  have hDe : (D.toList == ([] : List UInt8)) = false := by
    rw [beq_eq_false_iff_ne, ByteArray.toList_eq]
    intro h
    have h2 : D.data.toList.length = D.size := Array.length_toList
    rw [h, List.length_nil] at h2
    omega
  obtain ⟨z, hz⟩ : ∃ z, ((D[0].toNat : Int) == 48) = z := ⟨_, rfl⟩
  have hzz : headZ D.data.toList = z := by rw [headZ_at hD0, hz]
  by_cases hb : d = 1 ∨ z = false
  case neg =>
    have hdn : d ≠ 1 := fun h => hb (.inl h)
    have hd1 : (1 : Int) < (D.size : Int) := by omega
    obtain rfl : z = true := by cases z <;> simp_all
    have HU : Hid (R = (0, 1)) := amt_bad HA.out (.inr (.inr (.inl ⟨by omega, hzz⟩)))
    clear HA hb hzz
    go_enter Tryd.func35, Tryd.ntmps35
    go_wp2_with fail
    refine (HS.out _).mono ?_
    rintro e w1 ⟨rfl, hb1⟩
    go_wp2_with fail
    refine (HN.out _).mono ?_
    rintro e w2 ⟨rfl, hb2⟩
    have hg2 := hb1.trans (hb2.mono hb1.size)
    go_wp2_with fail
    go_ret2
    exact ⟨ret_ra HU.out, hg2⟩
  have hb' : ¬ ((1 : Int) < (D.size : Int)) ∨ ((1 : Int) < (D.size : Int) ∧ z = false) := by
    rcases hb with h | h
    · exact .inl (by omega)
    · by_cases h1 : (1 : Int) < (D.size : Int)
      · exact .inr ⟨h1, h⟩
      · exact .inl h1
  have hnz : ¬ (1 < d ∧ headZ D.data.toList = true) := by
    rw [hzz]
    rintro ⟨h1, h2⟩
    rcases hb with h | h
    · omega
    · rw [h] at h2; cases h2
  clear hzz hb
  cases uo with
  | false =>
    have HU : Hid (R = (0, 1)) := amt_bad HA.out (.inr (.inr (.inr rfl)))
    clear HA hnz
    rcases hb' with h1 | ⟨h1, rfl⟩
    all_goals
      go_enter Tryd.func35, Tryd.ntmps35
      go_wp2_with fail
      refine (HS.out _).mono ?_
      rintro e w1 ⟨rfl, hb1⟩
      go_wp2_with fail
      refine (HN.out _).mono ?_
      rintro e w2 ⟨rfl, hb2⟩
      have hg2 := hb1.trans (hb2.mono hb1.size)
      go_wp2_with fail
      go_ret2
      exact ⟨ret_ra HU.out, hg2⟩
  | true =>
    have hno : ¬ (40 < s.size ∨ d = 0 ∨ (1 < d ∧ headZ D.data.toList = true) ∨ true = false) := by
      simp only [not_or]
      exact ⟨by omega, hd0, hnz, by decide⟩
    have HU : Hid (R = if mo = false ∨ vo = false then (0, 2) else (v, 0)) := by rw [HA.out, if_neg hno]; rfl
    clear HA hnz hno
    cases mo <;> cases vo
    all_goals
      have HV := Lib.hid HU.out
      clear HU
      rcases hb' with h1 | ⟨h1, rfl⟩
    all_goals
      go_enter Tryd.func35, Tryd.ntmps35
      go_wp2_with fail
      refine (HS.out _).mono ?_
      rintro e w1 ⟨rfl, hb1⟩
      go_wp2_with fail
      refine (HN.out _).mono ?_
      rintro e w2 ⟨rfl, hb2⟩
      have hg2 := hb1.trans (hb2.mono hb1.size)
      go_wp2_with fail
      refine (HI.out _ (HT.out.below hg2) (HE.out.below hg2)).mono ?_
      rintro e w3 ⟨rfl, hb3⟩
      have hg3 := hg2.trans (hb3.mono hg2.size)
      go_wp2_with (go_at_call 49; refine (HM.out _).mono ?_; rintro e w4 ⟨rfl, rfl⟩)
      go_ret2
      exact ⟨ret_ra HV.out, hg3⟩

theorem walk_FnExactReadAmount (a : ByteArray) (w : World) (_ha : a.size ≤ maxLen) (hSt : Tab w ∧ Errs w) : Calls Tryd.prog 10 #[.string a] w fun e w' => e = .returned (.bool true) ∧ Below w.heap.size w w' := by
  obtain ⟨hT, hE⟩ := hSt
  have HT := Lib.hid hT
  have HE := Lib.hid hE
  clear hT hE
  by_cases hl : (1048576 : Int) < (a.size : Int)
  · go_enter Tryd.func10, Tryd.ntmps10
    go_wp2
    go_ret
    exact ⟨rfl, Below.refl _ _⟩
  · obtain ⟨T, HS, HI⟩ : ∃ T : Int × Int, Hid (∀ w, Calls Tryd.prog 34 #[.string a] w fun e w' => e = .returned (.tuple #[.int .i64 T.1, .int .i64 T.2]) ∧ Below w.heap.size w w') ∧ Hid (∀ w, Tab w → Errs w → Calls Tryd.prog 35 #[.string a] w fun e w' => e = .returned (.tuple #[.int .i64 T.1, .int .i64 T.2]) ∧ Below w.heap.size w w') := ⟨_, fun w => s_ReadAmount a (by omega) w, fun w h1 h2 => i_ReadAmount a (by omega) w h1 h2⟩
    go_enter Tryd.func10, Tryd.ntmps10
    go_wp2_with fail
    refine (HS.out _).mono ?_
    rintro e w1 ⟨rfl, hb1⟩
    go_wp2_with fail
    refine (HI.out _ (HT.out.below hb1) (HE.out.below hb1)).mono ?_
    rintro e w2 ⟨rfl, hb2⟩
    go_wp2_with fail
    go_ret
    exact ⟨rfl, hb1.trans (hb2.mono hb1.size)⟩
end Go.Proofs.YtpbflceekikbiaaDoor
