/-
  Walks: RuneOk, Brought, CompareInt (both sides) and their laws. No conditions.
-/
import Derived.Test.YtehhdnphpjmghaaWInt
import Derived.WalkLawsBesides
import Derived.Handy
namespace Go.Proofs.Ytehhdnphpjmghaa
open Go.ChangeShapes Go.WideShapes Go.ChangeAt Go.RowKit

theorem ret_int {k : IntKind} {a b : Int} (h : a = b) : Ending.returned (.int k a) = .returned (.int k b) := by rw [h]
def runeOkB (n : Int) : Bool := inB n 0 1114111 && !inB n 55296 57343

theorem i_RuneOk (n : Int) (w : World) : Calls Try.prog 16 #[.int .i64 n] w fun e w' => e = .returned (.bool (runeOkB n)) ∧ w = w' := by
  unfold runeOkB
  cases h1 : inB n 0 1114111 <;> cases h2 : inB n 55296 57343
  all_goals
    have H1 := Lib.hid h1
    have H2 := Lib.hid h2
    clear h1 h2
    go_enter Try.func16, Try.ntmps16
    go_wp2_with (go_at_call 43; refine (i_within _ _ _ _).mono ?_; rintro e w' ⟨rfl, rfl⟩; first | rw [H1.out] | rw [H2.out])
    go_ret
    exact ⟨rfl, rfl⟩

theorem s_RuneOk (n : Int) (w : World) : Calls Try.prog 15 #[.int .i64 n] w fun e w' => e = .returned (.bool (runeOkB n)) ∧ w = w' := by
  unfold runeOkB
  cases h1 : inB n 0 1114111 <;> cases h2 : inB n 55296 57343
  all_goals
    have H1 := Lib.hid h1
    have H2 := Lib.hid h2
    clear h1 h2
    go_enter Try.func15, Try.ntmps15
    go_wp2_with (go_at_call 42; refine (s_l01In _ _ _ _).mono ?_; rintro e w' ⟨rfl, rfl⟩; first | rw [H1.out] | rw [H2.out])
    go_ret
    exact ⟨rfl, rfl⟩

theorem i_Brought (n lo hi : Int) (w : World) : Calls Try.prog 24 #[.int .i64 n, .int .i64 lo, .int .i64 hi] w fun e w' => e = .returned (.int .i64 (broughtV n lo hi)) ∧ w = w' := by
  unfold broughtV
  by_cases h1 : hi < lo
  · rw [if_pos h1]; go_enter Try.func24, Try.ntmps24; go_wp2; go_ret; exact ⟨rfl, rfl⟩
  · rw [if_neg h1]
    by_cases h2 : n < lo
    · rw [if_pos h2]; go_enter Try.func24, Try.ntmps24; go_wp2; go_ret; exact ⟨rfl, rfl⟩
    · rw [if_neg h2]
      by_cases h3 : hi < n
      · rw [if_pos h3]; go_enter Try.func24, Try.ntmps24; go_wp2; all_goals (go_ret; first | exact ⟨rfl, rfl⟩ | exact ⟨ret_int (by omega), rfl⟩)
      · rw [if_neg h3]; go_enter Try.func24, Try.ntmps24; go_wp2; all_goals (go_ret; first | exact ⟨rfl, rfl⟩ | exact ⟨ret_int (by omega), rfl⟩)
theorem s_Brought (n lo hi : Int) (w : World) : Calls Try.prog 23 #[.int .i64 n, .int .i64 lo, .int .i64 hi] w fun e w' => e = .returned (.int .i64 (broughtV n lo hi)) ∧ w = w' := by
  unfold broughtV
  by_cases h1 : hi < lo
  · rw [if_pos h1]; go_enter Try.func23, Try.ntmps23; go_wp2; go_ret; exact ⟨rfl, rfl⟩
  · rw [if_neg h1]
    by_cases h2 : n < lo
    · rw [if_pos h2]; go_enter Try.func23, Try.ntmps23; go_wp2; go_ret; exact ⟨rfl, rfl⟩
    · rw [if_neg h2]
      by_cases h3 : hi < n
      · rw [if_pos h3]; go_enter Try.func23, Try.ntmps23; go_wp2; go_ret; exact ⟨rfl, rfl⟩
      · rw [if_neg h3]; go_enter Try.func23, Try.ntmps23; go_wp2; go_ret; exact ⟨rfl, rfl⟩

theorem i_CompareInt (a b : Int) (w : World) : Calls Try.prog 26 #[.int .i64 a, .int .i64 b] w fun e w' => e = .returned (.int .i64 (cmpV a b)) ∧ w = w' := by
  unfold cmpV
  by_cases h1 : a < b
  · rw [if_pos h1]; go_enter Try.func26, Try.ntmps26; go_wp2; go_ret; exact ⟨rfl, rfl⟩
  · rw [if_neg h1]
    by_cases h2 : b < a
    · rw [if_pos h2]; go_enter Try.func26, Try.ntmps26; go_wp2; go_ret; exact ⟨rfl, rfl⟩
    · rw [if_neg h2]; go_enter Try.func26, Try.ntmps26; go_wp2; go_ret; exact ⟨rfl, rfl⟩

theorem s_CompareInt (a b : Int) (w : World) : Calls Try.prog 25 #[.int .i64 a, .int .i64 b] w fun e w' => e = .returned (.int .i64 (cmpV a b)) ∧ w = w' := by
  unfold cmpV
  by_cases h1 : a < b
  · rw [if_pos h1]; go_enter Try.func25, Try.ntmps25; go_wp2; go_ret; exact ⟨rfl, rfl⟩
  · rw [if_neg h1]
    by_cases h2 : b < a
    · rw [if_pos h2]; go_enter Try.func25, Try.ntmps25; go_wp2; go_ret; exact ⟨rfl, rfl⟩
    · rw [if_neg h2]; go_enter Try.func25, Try.ntmps25; go_wp2; go_ret; exact ⟨rfl, rfl⟩

theorem walk_FnExactRuneOk (a : Int) (w : World) (_ha : (Lit.int .i64 a).wf = true) : Calls Try.prog 4 #[.int .i64 a] w fun e w' => e = .returned (.bool true) ∧ Below w.heap.size w w' := by
  go_enter Try.func4, Try.ntmps4
  go_wp2_with (first | (go_at_call 15; refine (s_RuneOk _ _).mono ?_; rintro e w' ⟨rfl, rfl⟩) | (go_at_call 16; refine (i_RuneOk _ _).mono ?_; rintro e w' ⟨rfl, rfl⟩))
  go_ret
  exact ⟨rfl, Below.refl _ _⟩

theorem walk_FnExactBrought (a b c : Int) (w : World) (_ha : (Lit.int .i64 a).wf = true) (_hb : (Lit.int .i64 b).wf = true) (_hc : (Lit.int .i64 c).wf = true) : Calls Try.prog 8 #[.int .i64 a, .int .i64 b, .int .i64 c] w fun e w' => e = .returned (.bool true) ∧ Below w.heap.size w w' := by
  go_enter Try.func8, Try.ntmps8
  go_wp2_with (first | (go_at_call 23; refine (s_Brought _ _ _ _).mono ?_; rintro e w' ⟨rfl, rfl⟩) | (go_at_call 24; refine (i_Brought _ _ _ _).mono ?_; rintro e w' ⟨rfl, rfl⟩))
  go_ret
  exact ⟨rfl, Below.refl _ _⟩

theorem walk_FnExactCompareInt (a b : Int) (w : World) (_ha : (Lit.int .i64 a).wf = true) (_hb : (Lit.int .i64 b).wf = true) : Calls Try.prog 9 #[.int .i64 a, .int .i64 b] w fun e w' => e = .returned (.bool true) ∧ Below w.heap.size w w' := by
  go_enter Try.func9, Try.ntmps9
  go_wp2_with (first | (go_at_call 25; refine (s_CompareInt _ _ _).mono ?_; rintro e w' ⟨rfl, rfl⟩) | (go_at_call 26; refine (i_CompareInt _ _ _).mono ?_; rintro e w' ⟨rfl, rfl⟩))
  go_ret
  exact ⟨rfl, Below.refl _ _⟩

end Go.Proofs.Ytehhdnphpjmghaa
