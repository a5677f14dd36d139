/-
  Contracts of the small integer functions (both sides): each leaves the world alone. No conditions beyond the integers' kind.
-/
import Derived.Test.YtpbflceekikbiaaDoorKit
import Derived.Outline
import Derived.Lib.Hide
namespace Go.Proofs.YtpbflceekikbiaaDoor
open Go.RowKit

def inB (n lo hi : Int) : Bool := decide (lo ≤ n ∧ n ≤ hi)
theorem inB_t {n lo hi : Int} (h : lo ≤ n ∧ n ≤ hi) : inB n lo hi = true := decide_eq_true h
theorem inB_f {n lo hi : Int} (h : ¬ (lo ≤ n ∧ n ≤ hi)) : inB n lo hi = false := decide_eq_false h


def addB (a b : Int) : Bool := decide (0 ≤ a ∧ 0 ≤ b ∧ a + b ≤ 9223372036854775807)
def addV (a b : Int) : Int := if 0 ≤ a ∧ 0 ≤ b ∧ a + b ≤ 9223372036854775807 then a + b else 0
def subB (a b : Int) : Bool := decide (0 ≤ b ∧ b ≤ a)
def subV (a b : Int) : Int := if 0 ≤ b ∧ b ≤ a then a - b else 0
def mulB (a b : Int) : Bool := decide (0 ≤ a ∧ 0 ≤ b ∧ a * b ≤ 9223372036854775807)
def mulV (a b : Int) : Int := if 0 ≤ a ∧ 0 ≤ b ∧ a * b ≤ 9223372036854775807 then a * b else 0
def cmpV (a b : Int) : Int := if a < b then -1 else if b < a then 1 else 0
def broughtV (n lo hi : Int) : Int := if hi < lo then lo else if n < lo then lo else if hi < n then hi else n

theorem add_t {a b : Int} (h : 0 ≤ a ∧ 0 ≤ b ∧ a + b ≤ 9223372036854775807) : addB a b = true ∧ addV a b = a + b := ⟨decide_eq_true h, if_pos h⟩
theorem add_f {a b : Int} (h : ¬ (0 ≤ a ∧ 0 ≤ b ∧ a + b ≤ 9223372036854775807)) : addB a b = false ∧ addV a b = 0 := ⟨decide_eq_false h, if_neg h⟩
theorem sub_t {a b : Int} (h : 0 ≤ b ∧ b ≤ a) : subB a b = true ∧ subV a b = a - b := ⟨decide_eq_true h, if_pos h⟩
theorem sub_f {a b : Int} (h : ¬ (0 ≤ b ∧ b ≤ a)) : subB a b = false ∧ subV a b = 0 := ⟨decide_eq_false h, if_neg h⟩
theorem mul_t {a b : Int} (h : 0 ≤ a ∧ 0 ≤ b ∧ a * b ≤ 9223372036854775807) : mulB a b = true ∧ mulV a b = a * b := ⟨decide_eq_true h, if_pos h⟩
theorem mul_f {a b : Int} (h : ¬ (0 ≤ a ∧ 0 ≤ b ∧ a * b ≤ 9223372036854775807)) : mulB a b = false ∧ mulV a b = 0 := ⟨decide_eq_false h, if_neg h⟩

theorem i_MulInt (a b : Int) (ha : -9223372036854775808 ≤ a ∧ a ≤ 9223372036854775807) (hb : -9223372036854775808 ≤ b ∧ b ≤ 9223372036854775807) (w : World) : Calls Tryd.prog 49 #[.int .i64 a, .int .i64 b] w fun e w' => e = .returned (.tuple #[.int .i64 (mulV a b), .bool (mulB a b)]) ∧ w = w' := by
  by_cases h1 : a < 0
  · rw [(mul_f (a := a) (b := b) (by omega)).1, (mul_f (a := a) (b := b) (by omega)).2]; go_enter Tryd.func49, Tryd.ntmps49; go_wp2; go_ret2; exact ⟨rfl, rfl⟩
  · by_cases h2 : b < 0
    · rw [(mul_f (a := a) (b := b) (by omega)).1, (mul_f (a := a) (b := b) (by omega)).2]; go_enter Tryd.func49, Tryd.ntmps49; go_wp2; go_ret2; exact ⟨rfl, rfl⟩
    · by_cases h0 : b = 0
      · subst h0
        rw [(mul_t (a := a) (b := 0) (by omega)).1, (mul_t (a := a) (b := 0) (by omega)).2]; go_enter Tryd.func49, Tryd.ntmps49; go_wp2; go_ret2; exact ⟨by simp, rfl⟩
      · have hp : 1 ≤ b := by omega
        have hq : a ≤ 9223372036854775807 / b ↔ a * b ≤ 9223372036854775807 := Int.le_ediv_iff_mul_le (by omega)
        have hab : 0 ≤ a * b := Int.mul_nonneg (by omega) (by omega)
        by_cases h3 : 9223372036854775807 / b < a
        · rw [(mul_f (a := a) (b := b) (by omega)).1, (mul_f (a := a) (b := b) (by omega)).2]; clear hq; go_enter Tryd.func49, Tryd.ntmps49; go_wp2; go_ret2; exact ⟨rfl, rfl⟩
        · have hle : a * b ≤ 9223372036854775807 := by omega
          rw [(mul_t (a := a) (b := b) (by omega)).1, (mul_t (a := a) (b := b) (by omega)).2]; clear hq; go_enter Tryd.func49, Tryd.ntmps49; go_wp2; go_ret2; exact ⟨rfl, rfl⟩

theorem s_MulInt (a b : Int) (ha : -9223372036854775808 ≤ a ∧ a ≤ 9223372036854775807) (hb : -9223372036854775808 ≤ b ∧ b ≤ 9223372036854775807) (w : World) : Calls Tryd.prog 28 #[.int .i64 a, .int .i64 b] w fun e w' => e = .returned (.tuple #[.int .i64 (mulV a b), .bool (mulB a b)]) ∧ w = w' := by
  by_cases h1 : a < 0
  · rw [(mul_f (a := a) (b := b) (by omega)).1, (mul_f (a := a) (b := b) (by omega)).2]; go_enter Tryd.func28, Tryd.ntmps28; go_wp2; go_ret2; exact ⟨rfl, rfl⟩
  · by_cases h2 : b < 0
    · rw [(mul_f (a := a) (b := b) (by omega)).1, (mul_f (a := a) (b := b) (by omega)).2]; go_enter Tryd.func28, Tryd.ntmps28; go_wp2; go_ret2; exact ⟨rfl, rfl⟩
    · by_cases h0 : b = 0
      · subst h0
        rw [(mul_t (a := a) (b := 0) (by omega)).1, (mul_t (a := a) (b := 0) (by omega)).2]; go_enter Tryd.func28, Tryd.ntmps28; go_wp2; go_ret2; exact ⟨by simp, rfl⟩
      · have hp : 1 ≤ b := by omega
        have hq : a ≤ 9223372036854775807 / b ↔ a * b ≤ 9223372036854775807 := Int.le_ediv_iff_mul_le (by omega)
        have hab : 0 ≤ a * b := Int.mul_nonneg (by omega) (by omega)
        by_cases h3 : 9223372036854775807 / b < a
        · rw [(mul_f (a := a) (b := b) (by omega)).1, (mul_f (a := a) (b := b) (by omega)).2]; clear hq; go_enter Tryd.func28, Tryd.ntmps28; go_wp2; go_ret2; exact ⟨rfl, rfl⟩
        · have hle : a * b ≤ 9223372036854775807 := by omega
          rw [(mul_t (a := a) (b := b) (by omega)).1, (mul_t (a := a) (b := b) (by omega)).2]; clear hq; go_enter Tryd.func28, Tryd.ntmps28; go_wp2; go_ret2; exact ⟨rfl, rfl⟩
end Go.Proofs.YtpbflceekikbiaaDoor
