/-
  Walks of the laws on small integer functions. No conditions.
-/
import Derived.Test.YtehhdnphpjmghaaWInt
namespace Go.Proofs.Ytehhdnphpjmghaa
open Go.ChangeShapes Go.WideShapes Go.ChangeAt Go.RowKit

theorem walk_FnExactConstants (w : World) : Calls Try.prog 3 #[] w fun e w' => e = .returned (.bool true) ∧ Below w.heap.size w w' := by
  go_enter Try.func3, Try.ntmps3
  go_wp2
  go_ret
  exact ⟨rfl, Below.refl _ _⟩

theorem walk_FnExactAddInt (a b : Int) (w : World) (ha : (Lit.int .i64 a).wf = true) (hb : (Lit.int .i64 b).wf = true) : Calls Try.prog 5 #[.int .i64 a, .int .i64 b] w fun e w' => e = .returned (.bool true) ∧ Below w.heap.size w w' := by
  have ba := bounds_i64 ha
  have bb := bounds_i64 hb
  go_enter Try.func5, Try.ntmps5
  go_wp2_with (first | (go_at_call 17; refine (s_AddInt _ _ ba bb _).mono ?_; rintro e w' ⟨rfl, rfl⟩) | (go_at_call 18; refine (i_AddInt _ _ ba bb _).mono ?_; rintro e w' ⟨rfl, rfl⟩))
  go_ret
  exact ⟨rfl, Below.refl _ _⟩

theorem walk_FnExactSubInt (a b : Int) (w : World) (ha : (Lit.int .i64 a).wf = true) (hb : (Lit.int .i64 b).wf = true) : Calls Try.prog 7 #[.int .i64 a, .int .i64 b] w fun e w' => e = .returned (.bool true) ∧ Below w.heap.size w w' := by
  have ba := bounds_i64 ha
  have bb := bounds_i64 hb
  go_enter Try.func7, Try.ntmps7
  go_wp2_with (first | (go_at_call 21; refine (s_SubInt _ _ ba bb _).mono ?_; rintro e w' ⟨rfl, rfl⟩) | (go_at_call 22; refine (i_SubInt _ _ ba bb _).mono ?_; rintro e w' ⟨rfl, rfl⟩))
  go_ret
  exact ⟨rfl, Below.refl _ _⟩

theorem walk_FnExactMulInt (a b : Int) (w : World) (ha : (Lit.int .i64 a).wf = true) (hb : (Lit.int .i64 b).wf = true) : Calls Try.prog 6 #[.int .i64 a, .int .i64 b] w fun e w' => e = .returned (.bool true) ∧ Below w.heap.size w w' := by
  have ba := bounds_i64 ha
  have bb := bounds_i64 hb
  go_enter Try.func6, Try.ntmps6
  go_wp2_with (first | (go_at_call 19; refine (s_MulInt _ _ ba bb _).mono ?_; rintro e w' ⟨rfl, rfl⟩) | (go_at_call 20; refine (i_MulInt _ _ ba bb _).mono ?_; rintro e w' ⟨rfl, rfl⟩))
  go_ret
  exact ⟨rfl, Below.refl _ _⟩
end Go.Proofs.Ytehhdnphpjmghaa
