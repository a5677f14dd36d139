/-
  Walks: RuneOk, Brought, CompareInt (both sides) and their laws. No conditions.
-/
import Derived.Test.YtedmfoogllekeaaDoorWInt
import Derived.WalkLawsBesides
import Derived.Handy
namespace Go.Proofs.YtedmfoogllekeaaDoor
open Go.ChangeShapes Go.WideShapes Go.ChangeAt Go.RowKit

theorem ret_int {k : IntKind} {a b : Int} (h : a = b) : Ending.returned (.int k a) = .returned (.int k b) := by rw [h]
def runeOkB (n : Int) : Bool := inB n 0 1114111 && !inB n 55296 57343


theorem s_RuneOk (n : Int) (w : World) : Calls Tryd.prog 17 #[.int .i64 n] w fun e w' => e = .returned (.bool (runeOkB n)) ∧ w = w' := by
  unfold runeOkB
  cases h1 : inB n 0 1114111 <;> cases h2 : inB n 55296 57343
  all_goals
    have H1 := Lib.hid h1
    have H2 := Lib.hid h2
    clear h1 h2
    go_enter Tryd.func17, Tryd.ntmps17
    go_wp2_with (go_at_call 12; refine (s_l01In _ _ _ _).mono ?_; rintro e w' ⟨rfl, rfl⟩; first | rw [H1.out] | rw [H2.out])
    go_ret
    exact ⟨rfl, rfl⟩







end Go.Proofs.YtedmfoogllekeaaDoor
