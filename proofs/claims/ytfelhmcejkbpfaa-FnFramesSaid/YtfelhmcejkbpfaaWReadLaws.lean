/-
  VersionIn (both sides), eqFrame; the laws on ReadFrame and VersionIn. No conditions.
-/
import Derived.Test.YtfelhmcejkbpfaaWReadFrS
namespace Go.Proofs.Ytfelhmcejkbpfaa
open Go.ChangeShapes Go.WideShapes Go.ChangeAt Go.RowKit

theorem l_eqFrame (v : Int) (p : ByteArray) (w : World) : Calls Try.prog 41 #[.agg #[.int .i64 v, .string p], .agg #[.int .i64 v, .string p]] w fun e w' => e = .returned (.bool true) ∧ Below w.heap.size w w' := by
  go_enter Try.func41, Try.ntmps41
  go_wp2
  go_ret
  exact ⟨rfl, by go_grown⟩

theorem i_VersionIn (s : ByteArray) (hs : s.size ≤ 2147483648) (w : World) : Calls Try.prog 38 #[.string s] w fun e w' => e = .returned (.tuple #[.int .i64 (rdFr s).1, .int .i64 ((rdCode s : Nat) : Int)]) ∧ Below w.heap.size w w' := by
  obtain ⟨V, P, C, hV, HC⟩ : ∃ V P C, (Ending.returned (.tuple #[.int .i64 (rdFr s).1, .int .i64 ((rdCode s : Nat) : Int)]) = Ending.returned (.tuple #[.int .i64 V, .int .i64 C])) ∧ Hid (∀ w, Calls Try.prog 40 #[.string s] w fun e w' => e = .returned (.tuple #[.agg #[.int .i64 V, .string P], .int .i64 C]) ∧ Below w.heap.size w w') :=
    ⟨_, _, _, rfl, fun w => i_ReadFrame s hs w⟩
  rw [hV]
  clear hV
  go_enter Try.func38, Try.ntmps38
  go_wp2_with fail
  refine (HC.out _).mono ?_
  rintro e w1 ⟨rfl, hb1⟩
  go_wp2_with fail
  go_ret2
  exact ⟨rfl, hb1.alloc hb1.size _⟩
theorem s_VersionIn (s : ByteArray) (hs : s.size ≤ 2147483648) (w : World) : Calls Try.prog 37 #[.string s] w fun e w' => e = .returned (.tuple #[.int .i64 (rdFr s).1, .int .i64 ((rdCode s : Nat) : Int)]) ∧ Below w.heap.size w w' := by
  obtain ⟨V, P, C, hV, HC⟩ : ∃ V P C, (Ending.returned (.tuple #[.int .i64 (rdFr s).1, .int .i64 ((rdCode s : Nat) : Int)]) = Ending.returned (.tuple #[.int .i64 V, .int .i64 C])) ∧ Hid (∀ w, Calls Try.prog 39 #[.string s] w fun e w' => e = .returned (.tuple #[.agg #[.int .i64 V, .string P], .int .i64 C]) ∧ Below w.heap.size w w') :=
    ⟨_, _, _, rfl, fun w => s_ReadFrame s hs w⟩
  rw [hV]
  clear hV
  go_enter Try.func37, Try.ntmps37
  go_wp2_with fail
  refine (HC.out _).mono ?_
  rintro e w1 ⟨rfl, hb1⟩
  go_wp2_with fail
  go_ret2
  exact ⟨rfl, hb1.alloc hb1.size _⟩

theorem walk_FnExactVersionIn (a : ByteArray) (w : World) (_ha : a.size ≤ maxLen) : Calls Try.prog 12 #[.string a] w fun e w' => e = .returned (.bool true) ∧ Below w.heap.size w w' := by
  by_cases hl : (1048576 : Int) < (a.size : Int)
  · go_enter Try.func12, Try.ntmps12
    go_wp2
    go_ret
    exact ⟨rfl, Below.refl _ _⟩
  · obtain ⟨V, C, HS, HI⟩ : ∃ V C, Hid (∀ w, Calls Try.prog 37 #[.string a] w fun e w' => e = .returned (.tuple #[.int .i64 V, .int .i64 C]) ∧ Below w.heap.size w w') ∧ Hid (∀ w, Calls Try.prog 38 #[.string a] w fun e w' => e = .returned (.tuple #[.int .i64 V, .int .i64 C]) ∧ Below w.heap.size w w') :=
      ⟨_, _, fun w => s_VersionIn a (by omega) w, fun w => i_VersionIn a (by omega) w⟩
    go_enter Try.func12, Try.ntmps12
    go_wp2_with (first | (go_at_call 37; refine (HS.out _).mono ?_; rintro e w1 ⟨rfl, hb1⟩) | (go_at_call 38; refine (HI.out _).mono ?_; rintro e w2 ⟨rfl, hb2⟩))
    go_ret
    exact ⟨rfl, hb1.trans (hb2.mono hb1.size)⟩

theorem walk_FnExactReadFrame (a : ByteArray) (w : World) (_ha : a.size ≤ maxLen) : Calls Try.prog 13 #[.string a] w fun e w' => e = .returned (.bool true) ∧ Below w.heap.size w w' := by
  by_cases hl : (1048576 : Int) < (a.size : Int)
  · go_enter Try.func13, Try.ntmps13
    go_wp2
    go_ret
    exact ⟨rfl, Below.refl _ _⟩
  · obtain ⟨V, P, C, HS, HI⟩ : ∃ V P C, Hid (∀ w, Calls Try.prog 39 #[.string a] w fun e w' => e = .returned (.tuple #[.agg #[.int .i64 V, .string P], .int .i64 C]) ∧ Below w.heap.size w w') ∧ Hid (∀ w, Calls Try.prog 40 #[.string a] w fun e w' => e = .returned (.tuple #[.agg #[.int .i64 V, .string P], .int .i64 C]) ∧ Below w.heap.size w w') :=
      ⟨_, _, _, fun w => s_ReadFrame a (by omega) w, fun w => i_ReadFrame a (by omega) w⟩
    go_enter Try.func13, Try.ntmps13
    go_wp2_with fail
    refine (HS.out _).mono ?_
    rintro e w1 ⟨rfl, hb1⟩
    go_wp2_with fail
    refine (HI.out _).mono ?_
    rintro e w2 ⟨rfl, hb2⟩
    obtain ⟨hc0, hc1⟩ := box_cells hb2
    have hlt : w1.heap.size < w2.heap.size := by have := hb2.size; simp at this; omega
    go_wp2_with fail
    refine (l_eqFrame V P _).mono ?_
    rintro e w3 ⟨rfl, hb3⟩
    go_wp2_with fail
    go_ret
    exact ⟨rfl, below_step hb1 (Nat.le_refl _) (below_step (box_below hb2) (Nat.le_refl _) (box_below hb3))⟩
end Go.Proofs.Ytfelhmcejkbpfaa
