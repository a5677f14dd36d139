/-
  Contracts of the small integer functions (both sides): each leaves the world alone. No conditions beyond the integers' kind.
-/
import Derived.Test.YtedmfoogllekeaaDoorKit
import Derived.Outline
import Derived.Lib.Hide
namespace Go.Proofs.YtedmfoogllekeaaDoor
open Go.RowKit

def inB (n lo hi : Int) : Bool := decide (lo ≤ n ∧ n ≤ hi)
theorem inB_t {n lo hi : Int} (h : lo ≤ n ∧ n ≤ hi) : inB n lo hi = true := decide_eq_true h
theorem inB_f {n lo hi : Int} (h : ¬ (lo ≤ n ∧ n ≤ hi)) : inB n lo hi = false := decide_eq_false h

theorem s_l01In (n lo hi : Int) (w : World) : Calls Tryd.prog 12 #[.int .i64 n, .int .i64 lo, .int .i64 hi] w fun e w' => e = .returned (.bool (inB n lo hi)) ∧ w = w' := by
  by_cases h1 : lo ≤ n
  · by_cases h2 : n ≤ hi
    · rw [inB_t ⟨h1, h2⟩]; go_enter Tryd.func12, Tryd.ntmps12; go_wp2; go_ret; exact ⟨rfl, rfl⟩
    · rw [inB_f (by omega)]; go_enter Tryd.func12, Tryd.ntmps12; go_wp2; go_ret; exact ⟨rfl, rfl⟩
  · rw [inB_f (by omega)]; go_enter Tryd.func12, Tryd.ntmps12; go_wp2; go_ret; exact ⟨rfl, rfl⟩

def addB (a b : Int) : Bool := decide (0 ≤ a ∧ 0 ≤ b ∧ a + b ≤ 9223372036854775807)
def addV (a b : Int) : Int := if 0 ≤ a ∧ 0 ≤ b ∧ a + b ≤ 9223372036854775807 then a + b else 0
def subB (a b : Int) : Bool := decide (0 ≤ b ∧ b ≤ a)
def subV (a b : Int) : Int := if 0 ≤ b ∧ b ≤ a then a - b else 0
def mulB (a b : Int) : Bool := decide (0 ≤ a ∧ 0 ≤ b ∧ a * b ≤ 9223372036854775807)
def mulV (a b : Int) : Int := if 0 ≤ a ∧ 0 ≤ b ∧ a * b ≤ 9223372036854775807 then a * b else 0
def cmpV (a b : Int) : Int := if a < b then -1 else if b < a then 1 else 0
def broughtV (n lo hi : Int) : Int := if hi < lo then lo else if n < lo then lo else if hi < n then hi else n

theorem add_t {a b : Int} (h : 0 ≤ a ∧ 0 ≤ b ∧ a + b ≤ 9223372036854775807) : addB a b = true ∧ addV a b = a + b := ⟨decide_eq_true h, if_pos h⟩
theorem add_f {a b : Int} (h : ¬ (0 ≤ a ∧ 0 ≤ b ∧ a + b ≤ 9223372036854775807)) : addB a b = false ∧ addV a b = 0 := ⟨decide_eq_false h, if_neg h⟩
theorem sub_t {a b : Int} (h : 0 ≤ b ∧ b ≤ a) : subB a b = true ∧ subV a b = a - b := ⟨decide_eq_true h, if_pos h⟩
theorem sub_f {a b : Int} (h : ¬ (0 ≤ b ∧ b ≤ a)) : subB a b = false ∧ subV a b = 0 := ⟨decide_eq_false h, if_neg h⟩
theorem mul_t {a b : Int} (h : 0 ≤ a ∧ 0 ≤ b ∧ a * b ≤ 9223372036854775807) : mulB a b = true ∧ mulV a b = a * b := ⟨decide_eq_true h, if_pos h⟩
theorem mul_f {a b : Int} (h : ¬ (0 ≤ a ∧ 0 ≤ b ∧ a * b ≤ 9223372036854775807)) : mulB a b = false ∧ mulV a b = 0 := ⟨decide_eq_false h, if_neg h⟩


end Go.Proofs.YtedmfoogllekeaaDoor
