/-
  FrameSize, Reframed (both sides); the laws on FrameText, FrameSize, Reframed. No conditions.
-/
import Derived.Test.YtfelhmcejkbpfaaWFrTextI
import Derived.Test.YtfelhmcejkbpfaaWFrTextS
import Derived.Test.YtfelhmcejkbpfaaWReadFrS
namespace Go.Proofs.Ytfelhmcejkbpfaa
open Go.ChangeShapes Go.WideShapes Go.ChangeAt Go.RowKit

theorem i_FrameSize (v : Int) (p : ByteArray) (hv : -9223372036854775808 ≤ v ∧ v ≤ 9223372036854775807) (w : World) : Calls Try.prog 34 #[.agg #[.int .i64 v, .string p]] w fun e w' => e = .returned (.int .i64 ((frText v p).size : Int)) ∧ Below w.heap.size w w' := by
  obtain ⟨T, hT, HT⟩ : ∃ T, frText v p = T ∧ Hid (∀ w, Calls Try.prog 32 #[.agg #[.int .i64 v, .string p]] w fun e w' => e = .returned (.string T) ∧ Below w.heap.size w w') := ⟨_, rfl, fun w => i_FrameText v p hv w⟩
  rw [hT]
  clear hT
  go_enter Try.func34, Try.ntmps34
  go_wp2_with fail
  refine (HT.out _).mono ?_
  rintro e w1 ⟨rfl, hb1⟩
  go_wp2_with fail
  go_ret
  exact ⟨rfl, box_below hb1⟩
theorem s_FrameSize (v : Int) (p : ByteArray) (hv : -9223372036854775808 ≤ v ∧ v ≤ 9223372036854775807) (w : World) : Calls Try.prog 33 #[.agg #[.int .i64 v, .string p]] w fun e w' => e = .returned (.int .i64 ((frText v p).size : Int)) ∧ Below w.heap.size w w' := by
  obtain ⟨T, hT, HT⟩ : ∃ T, frText v p = T ∧ Hid (∀ w, Calls Try.prog 30 #[.agg #[.int .i64 v, .string p]] w fun e w' => e = .returned (.string T) ∧ Below w.heap.size w w') := ⟨_, rfl, fun w => s_FrameText v p hv w⟩
  rw [hT]
  clear hT
  go_enter Try.func33, Try.ntmps33
  go_wp2_with fail
  refine (HT.out _).mono ?_
  rintro e w1 ⟨rfl, hb1⟩
  go_wp2_with fail
  go_ret
  exact ⟨rfl, box_below hb1⟩
def reFr (s : ByteArray) (v : Int) : ByteArray := if rdCode s = 0 then frText v (rdFr s).2 else ⟨#[]⟩
theorem ret_re {s T : ByteArray} {v : Int} (h : reFr s v = T) : Ending.returned (.string T) = .returned (.string (reFr s v)) := by rw [h]
theorem i_Reframed (s : ByteArray) (v : Int) (hs : s.size ≤ 2147483648) (hv : -9223372036854775808 ≤ v ∧ v ≤ 9223372036854775807) (w : World) : Calls Try.prog 45 #[.string s, .int .i64 v] w fun e w' => e = .returned (.string (reFr s v)) ∧ Below w.heap.size w w' := by
  obtain ⟨V, P, C, hP, hC, HC⟩ : ∃ V P C, (rdFr s).2 = P ∧ rdCode s = C ∧ Hid (∀ w, Calls Try.prog 40 #[.string s] w fun e w' => e = .returned (.tuple #[.agg #[.int .i64 V, .string P], .int .i64 ((C : Nat) : Int)]) ∧ Below w.heap.size w w') :=
    ⟨_, _, _, rfl, rfl, fun w => i_ReadFrame s hs w⟩
  by_cases h : C = 0
  · obtain ⟨T, hT, HT⟩ : ∃ T, frText v P = T ∧ Hid (∀ w, Calls Try.prog 32 #[.agg #[.int .i64 v, .string P]] w fun e w' => e = .returned (.string T) ∧ Below w.heap.size w w') := ⟨_, rfl, fun w => i_FrameText v P hv w⟩
    have HR : Hid (reFr s v = T) := by unfold Hid reFr; rw [hC, if_pos h, hP, hT]
    have h0 : ((C : Int) != 0) = false := by subst h; decide
    clear hP hC hT h
    go_enter Try.func45, Try.ntmps45
    go_wp2_with fail
    refine (HC.out _).mono ?_
    rintro e w1 ⟨rfl, hb1⟩
    go_wp2_with fail
    refine (HT.out _).mono ?_
    rintro e w2 ⟨rfl, hb2⟩
    go_wp2_with fail
    go_ret
    exact ⟨ret_re HR.out, below_step hb1 (Nat.le_refl _) (box_below hb2)⟩
  · have HR : Hid (reFr s v = ⟨#[]⟩) := if_neg (by rw [hC]; exact h)
    have h0 : ((C : Int) != 0) = true := bne_iff_ne.2 (by omega)
    clear hP hC h
    go_enter Try.func45, Try.ntmps45
    go_wp2_with fail
    refine (HC.out _).mono ?_
    rintro e w1 ⟨rfl, hb1⟩
    go_wp2_with fail
    go_ret
    exact ⟨ret_re HR.out, below_step hb1 (Nat.le_refl _) ((Below.refl _ _).alloc (Nat.le_refl _) _)⟩
theorem s_Reframed (s : ByteArray) (v : Int) (hs : s.size ≤ 2147483648) (hv : -9223372036854775808 ≤ v ∧ v ≤ 9223372036854775807) (w : World) : Calls Try.prog 46 #[.string s, .int .i64 v] w fun e w' => e = .returned (.string (reFr s v)) ∧ Below w.heap.size w w' := by
  obtain ⟨V, P, C, hP, hC, HC⟩ : ∃ V P C, (rdFr s).2 = P ∧ rdCode s = C ∧ Hid (∀ w, Calls Try.prog 39 #[.string s] w fun e w' => e = .returned (.tuple #[.agg #[.int .i64 V, .string P], .int .i64 ((C : Nat) : Int)]) ∧ Below w.heap.size w w') :=
    ⟨_, _, _, rfl, rfl, fun w => s_ReadFrame s hs w⟩
  by_cases h : C = 0
  · obtain ⟨T, hT, HT⟩ : ∃ T, frText v P = T ∧ Hid (∀ w, Calls Try.prog 30 #[.agg #[.int .i64 v, .string P]] w fun e w' => e = .returned (.string T) ∧ Below w.heap.size w w') := ⟨_, rfl, fun w => s_FrameText v P hv w⟩
    have HR : Hid (reFr s v = T) := by unfold Hid reFr; rw [hC, if_pos h, hP, hT]
    have h0 : ((C : Int) != 0) = false := by subst h; decide
    clear hP hC hT h
    go_enter Try.func46, Try.ntmps46
    go_wp2_with fail
    refine (HC.out _).mono ?_
    rintro e w1 ⟨rfl, hb1⟩
    go_wp2_with fail
    refine (HT.out _).mono ?_
    rintro e w2 ⟨rfl, hb2⟩
    go_wp2_with fail
    go_ret
    exact ⟨ret_re HR.out, below_step hb1 (Nat.le_refl _) (box_below hb2)⟩
  · have HR : Hid (reFr s v = ⟨#[]⟩) := if_neg (by rw [hC]; exact h)
    have h0 : ((C : Int) != 0) = true := bne_iff_ne.2 (by omega)
    clear hP hC h
    go_enter Try.func46, Try.ntmps46
    go_wp2_with fail
    refine (HC.out _).mono ?_
    rintro e w1 ⟨rfl, hb1⟩
    go_wp2_with fail
    go_ret
    exact ⟨ret_re HR.out, below_step hb1 (Nat.le_refl _) ((Below.refl _ _).alloc (Nat.le_refl _) _)⟩
theorem walk_FnExactFrameText (v : Int) (p : ByteArray) (w : World) (hv : (Lit.int .i64 v).wf = true) (hp : p.size ≤ maxLen) : Calls Try.prog 9 #[.agg #[.int .i64 v, .string p]] w fun e w' => e = .returned (.bool true) ∧ Below w.heap.size w w' := by
  have ba := bounds_i64 hv
  by_cases h : (1048576 : Int) - (p.size : Int) < 0
  · have HZ : Hid ((if (1048576 : Int) - p.size < 0 then -1 else 1048576 - p.size : Int) = -1) := if_pos h
    go_enter Try.func9, Try.ntmps9
    go_wp2_with (go_at_call 29; refine (l_szFrame v p _ rfl hp _).mono ?_; rintro e w1 ⟨rfl, hb1⟩; rw [HZ.out])
    go_ret
    exact ⟨rfl, box_below hb1⟩
  · have HZ : Hid ((if (1048576 : Int) - p.size < 0 then -1 else 1048576 - p.size : Int) = 1048576 - p.size) := if_neg h
    obtain ⟨T, HS, HI⟩ : ∃ T, Hid (∀ w, Calls Try.prog 30 #[.agg #[.int .i64 v, .string p]] w fun e w' => e = .returned (.string T) ∧ Below w.heap.size w w') ∧ Hid (∀ w, Calls Try.prog 32 #[.agg #[.int .i64 v, .string p]] w fun e w' => e = .returned (.string T) ∧ Below w.heap.size w w') := ⟨_, fun w => s_FrameText v p ba w, fun w => i_FrameText v p ba w⟩
    clear ba
    go_enter Try.func9, Try.ntmps9
    go_wp2_with fail
    refine (l_szFrame v p _ rfl hp _).mono ?_
    rintro e w1 ⟨rfl, hb1⟩
    rw [HZ.out]
    obtain ⟨hc0, hc1⟩ := box_cells hb1
    go_wp2_with fail
    refine (l_toFrame v p _).mono ?_
    rintro e w2 ⟨rfl, hb2⟩
    have hb2 := below_step hb1 (Nat.le_refl _) hb2
    go_wp2_with fail
    refine (HS.out _).mono ?_
    rintro e w3 ⟨rfl, hb3⟩
    have hb3 := below_step hb2 (Nat.le_refl _) hb3
    clear hc0 hc1
    obtain ⟨hc0, hc1⟩ := box_cells hb3
    go_wp2_with fail
    refine (l_toFrame v p _).mono ?_
    rintro e w4 ⟨rfl, hb4⟩
    have hb4 := below_step hb3 (Nat.le_refl _) hb4
    go_wp2_with fail
    refine (HI.out _).mono ?_
    rintro e w5 ⟨rfl, hb5⟩
    have hb5 := below_step hb4 (Nat.le_refl _) hb5
    go_wp2_with fail
    go_ret
    exact ⟨rfl, box_below hb5⟩

theorem walk_FnExactFrameSize (v : Int) (p : ByteArray) (w : World) (hv : (Lit.int .i64 v).wf = true) (hp : p.size ≤ maxLen) : Calls Try.prog 10 #[.agg #[.int .i64 v, .string p]] w fun e w' => e = .returned (.bool true) ∧ Below w.heap.size w w' := by
  have ba := bounds_i64 hv
  by_cases h : (1048576 : Int) - (p.size : Int) < 0
  · have HZ : Hid ((if (1048576 : Int) - p.size < 0 then -1 else 1048576 - p.size : Int) = -1) := if_pos h
    go_enter Try.func10, Try.ntmps10
    go_wp2_with (go_at_call 29; refine (l_szFrame v p _ rfl hp _).mono ?_; rintro e w1 ⟨rfl, hb1⟩; rw [HZ.out])
    go_ret
    exact ⟨rfl, box_below hb1⟩
  · have HZ : Hid ((if (1048576 : Int) - p.size < 0 then -1 else 1048576 - p.size : Int) = 1048576 - p.size) := if_neg h
    obtain ⟨T, HS, HI⟩ : ∃ T, Hid (∀ w, Calls Try.prog 33 #[.agg #[.int .i64 v, .string p]] w fun e w' => e = .returned (.int .i64 T) ∧ Below w.heap.size w w') ∧ Hid (∀ w, Calls Try.prog 34 #[.agg #[.int .i64 v, .string p]] w fun e w' => e = .returned (.int .i64 T) ∧ Below w.heap.size w w') := ⟨_, fun w => s_FrameSize v p ba w, fun w => i_FrameSize v p ba w⟩
    clear ba
    go_enter Try.func10, Try.ntmps10
    go_wp2_with fail
    refine (l_szFrame v p _ rfl hp _).mono ?_
    rintro e w1 ⟨rfl, hb1⟩
    rw [HZ.out]
    obtain ⟨hc0, hc1⟩ := box_cells hb1
    go_wp2_with fail
    refine (l_toFrame v p _).mono ?_
    rintro e w2 ⟨rfl, hb2⟩
    have hb2 := below_step hb1 (Nat.le_refl _) hb2
    go_wp2_with fail
    refine (HS.out _).mono ?_
    rintro e w3 ⟨rfl, hb3⟩
    have hb3 := below_step hb2 (Nat.le_refl _) hb3
    clear hc0 hc1
    obtain ⟨hc0, hc1⟩ := box_cells hb3
    go_wp2_with fail
    refine (l_toFrame v p _).mono ?_
    rintro e w4 ⟨rfl, hb4⟩
    have hb4 := below_step hb3 (Nat.le_refl _) hb4
    go_wp2_with fail
    refine (HI.out _).mono ?_
    rintro e w5 ⟨rfl, hb5⟩
    have hb5 := below_step hb4 (Nat.le_refl _) hb5
    go_wp2_with fail
    go_ret
    exact ⟨rfl, box_below hb5⟩

theorem walk_FnExactReframed (a : ByteArray) (v : Int) (w : World) (_ha : a.size ≤ maxLen) (hv : (Lit.int .i64 v).wf = true) : Calls Try.prog 16 #[.string a, .int .i64 v] w fun e w' => e = .returned (.bool true) ∧ Below w.heap.size w w' := by
  have ba := bounds_i64 hv
  by_cases hl : (1048576 : Int) < (a.size : Int)
  · go_enter Try.func16, Try.ntmps16
    go_wp2
    go_ret
    exact ⟨rfl, Below.refl _ _⟩
  · obtain ⟨T, HS, HI⟩ : ∃ T, Hid (∀ w, Calls Try.prog 46 #[.string a, .int .i64 v] w fun e w' => e = .returned (.string T) ∧ Below w.heap.size w w') ∧ Hid (∀ w, Calls Try.prog 45 #[.string a, .int .i64 v] w fun e w' => e = .returned (.string T) ∧ Below w.heap.size w w') :=
      ⟨_, fun w => s_Reframed a v (by omega) ba w, fun w => i_Reframed a v (by omega) ba w⟩
    clear ba
    go_enter Try.func16, Try.ntmps16
    go_wp2_with (first | (go_at_call 46; refine (HS.out _).mono ?_; rintro e w1 ⟨rfl, hb1⟩) | (go_at_call 45; refine (HI.out _).mono ?_; rintro e w2 ⟨rfl, hb2⟩))
    go_ret
    exact ⟨rfl, hb1.trans (hb2.mono hb1.size)⟩

end Go.Proofs.Ytfelhmcejkbpfaa
