/-
  Walks: RuneOk, Brought, CompareInt (both sides) and their laws. No conditions.
-/
import Derived.Test.YtpbflceekikbiaaDoorWInt
import Derived.WalkLawsBesides
import Derived.Handy
namespace Go.Proofs.YtpbflceekikbiaaDoor
open Go.ChangeShapes Go.WideShapes Go.ChangeAt Go.RowKit

theorem ret_int {k : IntKind} {a b : Int} (h : a = b) : Ending.returned (.int k a) = .returned (.int k b) := by rw [h]
def runeOkB (n : Int) : Bool := inB n 0 1114111 && !inB n 55296 57343



theorem i_Brought (n lo hi : Int) (w : World) : Calls Tryd.prog 33 #[.int .i64 n, .int .i64 lo, .int .i64 hi] w fun e w' => e = .returned (.int .i64 (broughtV n lo hi)) ∧ w = w' := by
  unfold broughtV
  by_cases h1 : hi < lo
  · rw [if_pos h1]; go_enter Tryd.func33, Tryd.ntmps33; go_wp2; go_ret; exact ⟨rfl, rfl⟩
  · rw [if_neg h1]
    by_cases h2 : n < lo
    · rw [if_pos h2]; go_enter Tryd.func33, Tryd.ntmps33; go_wp2; go_ret; exact ⟨rfl, rfl⟩
    · rw [if_neg h2]
      by_cases h3 : hi < n
      · rw [if_pos h3]; go_enter Tryd.func33, Tryd.ntmps33; go_wp2; all_goals (go_ret; first | exact ⟨rfl, rfl⟩ | exact ⟨ret_int (by omega), rfl⟩)
      · rw [if_neg h3]; go_enter Tryd.func33, Tryd.ntmps33; go_wp2; all_goals (go_ret; first | exact ⟨rfl, rfl⟩ | exact ⟨ret_int (by omega), rfl⟩)

theorem i_CompareInt (a b : Int) (w : World) : Calls Tryd.prog 57 #[.int .i64 a, .int .i64 b] w fun e w' => e = .returned (.int .i64 (cmpV a b)) ∧ w = w' := by
  unfold cmpV
  by_cases h1 : a < b
  · rw [if_pos h1]; go_enter Tryd.func57, Tryd.ntmps57; go_wp2; go_ret; exact ⟨rfl, rfl⟩
  · rw [if_neg h1]
    by_cases h2 : b < a
    · rw [if_pos h2]; go_enter Tryd.func57, Tryd.ntmps57; go_wp2; go_ret; exact ⟨rfl, rfl⟩
    · rw [if_neg h2]; go_enter Tryd.func57, Tryd.ntmps57; go_wp2; go_ret; exact ⟨rfl, rfl⟩

theorem s_CompareInt (a b : Int) (w : World) : Calls Tryd.prog 56 #[.int .i64 a, .int .i64 b] w fun e w' => e = .returned (.int .i64 (cmpV a b)) ∧ w = w' := by
  unfold cmpV
  by_cases h1 : a < b
  · rw [if_pos h1]; go_enter Tryd.func56, Tryd.ntmps56; go_wp2; go_ret; exact ⟨rfl, rfl⟩
  · rw [if_neg h1]
    by_cases h2 : b < a
    · rw [if_pos h2]; go_enter Tryd.func56, Tryd.ntmps56; go_wp2; go_ret; exact ⟨rfl, rfl⟩
    · rw [if_neg h2]; go_enter Tryd.func56, Tryd.ntmps56; go_wp2; go_ret; exact ⟨rfl, rfl⟩




end Go.Proofs.YtpbflceekikbiaaDoor
