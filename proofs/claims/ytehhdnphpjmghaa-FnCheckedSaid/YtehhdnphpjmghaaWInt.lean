/-
  Contracts of the small integer functions (both sides): each leaves the world alone. No conditions beyond the integers' kind.
-/
import Derived.Test.YtehhdnphpjmghaaKit
import Derived.Outline
import Derived.Lib.Hide
namespace Go.Proofs.Ytehhdnphpjmghaa
open Go.RowKit

def inB (n lo hi : Int) : Bool := decide (lo ≤ n ∧ n ≤ hi)
theorem inB_t {n lo hi : Int} (h : lo ≤ n ∧ n ≤ hi) : inB n lo hi = true := decide_eq_true h
theorem inB_f {n lo hi : Int} (h : ¬ (lo ≤ n ∧ n ≤ hi)) : inB n lo hi = false := decide_eq_false h

theorem i_within (n lo hi : Int) (w : World) : Calls Try.prog 43 #[.int .i64 n, .int .i64 lo, .int .i64 hi] w fun e w' => e = .returned (.bool (inB n lo hi)) ∧ w = w' := by
  by_cases h1 : lo ≤ n
  · by_cases h2 : n ≤ hi
    · rw [inB_t ⟨h1, h2⟩]; go_enter Try.func43, Try.ntmps43; go_wp2; go_ret; exact ⟨rfl, rfl⟩
    · rw [inB_f (by omega)]; go_enter Try.func43, Try.ntmps43; go_wp2; go_ret; exact ⟨rfl, rfl⟩
  · rw [inB_f (by omega)]; go_enter Try.func43, Try.ntmps43; go_wp2; go_ret; exact ⟨rfl, rfl⟩
theorem s_l01In (n lo hi : Int) (w : World) : Calls Try.prog 42 #[.int .i64 n, .int .i64 lo, .int .i64 hi] w fun e w' => e = .returned (.bool (inB n lo hi)) ∧ w = w' := by
  by_cases h1 : lo ≤ n
  · by_cases h2 : n ≤ hi
    · rw [inB_t ⟨h1, h2⟩]; go_enter Try.func42, Try.ntmps42; go_wp2; go_ret; exact ⟨rfl, rfl⟩
    · rw [inB_f (by omega)]; go_enter Try.func42, Try.ntmps42; go_wp2; go_ret; exact ⟨rfl, rfl⟩
  · rw [inB_f (by omega)]; go_enter Try.func42, Try.ntmps42; go_wp2; go_ret; exact ⟨rfl, rfl⟩

def addB (a b : Int) : Bool := decide (0 ≤ a ∧ 0 ≤ b ∧ a + b ≤ 9223372036854775807)
def addV (a b : Int) : Int := if 0 ≤ a ∧ 0 ≤ b ∧ a + b ≤ 9223372036854775807 then a + b else 0
def subB (a b : Int) : Bool := decide (0 ≤ b ∧ b ≤ a)
def subV (a b : Int) : Int := if 0 ≤ b ∧ b ≤ a then a - b else 0
def mulB (a b : Int) : Bool := decide (0 ≤ a ∧ 0 ≤ b ∧ a * b ≤ 9223372036854775807)
def mulV (a b : Int) : Int := if 0 ≤ a ∧ 0 ≤ b ∧ a * b ≤ 9223372036854775807 then a * b else 0
def cmpV (a b : Int) : Int := if a < b then -1 else if b < a then 1 else 0
def broughtV (n lo hi : Int) : Int := if hi < lo then lo else if n < lo then lo else if hi < n then hi else n

theorem add_t {a b : Int} (h : 0 ≤ a ∧ 0 ≤ b ∧ a + b ≤ 9223372036854775807) : addB a b = true ∧ addV a b = a + b := ⟨decide_eq_true h, if_pos h⟩
theorem add_f {a b : Int} (h : ¬ (0 ≤ a ∧ 0 ≤ b ∧ a + b ≤ 9223372036854775807)) : addB a b = false ∧ addV a b = 0 := ⟨decide_eq_false h, if_neg h⟩
theorem sub_t {a b : Int} (h : 0 ≤ b ∧ b ≤ a) : subB a b = true ∧ subV a b = a - b := ⟨decide_eq_true h, if_pos h⟩
theorem sub_f {a b : Int} (h : ¬ (0 ≤ b ∧ b ≤ a)) : subB a b = false ∧ subV a b = 0 := ⟨decide_eq_false h, if_neg h⟩
theorem mul_t {a b : Int} (h : 0 ≤ a ∧ 0 ≤ b ∧ a * b ≤ 9223372036854775807) : mulB a b = true ∧ mulV a b = a * b := ⟨decide_eq_true h, if_pos h⟩
theorem mul_f {a b : Int} (h : ¬ (0 ≤ a ∧ 0 ≤ b ∧ a * b ≤ 9223372036854775807)) : mulB a b = false ∧ mulV a b = 0 := ⟨decide_eq_false h, if_neg h⟩

theorem i_AddInt (a b : Int) (ha : -9223372036854775808 ≤ a ∧ a ≤ 9223372036854775807) (hb : -9223372036854775808 ≤ b ∧ b ≤ 9223372036854775807) (w : World) : Calls Try.prog 18 #[.int .i64 a, .int .i64 b] w fun e w' => e = .returned (.tuple #[.int .i64 (addV a b), .bool (addB a b)]) ∧ w = w' := by
  by_cases h1 : a < 0
  · rw [(add_f (a := a) (b := b) (by omega)).1, (add_f (a := a) (b := b) (by omega)).2]; go_enter Try.func18, Try.ntmps18; go_wp2; go_ret2; exact ⟨rfl, rfl⟩
  · by_cases h2 : b < 0
    · rw [(add_f (a := a) (b := b) (by omega)).1, (add_f (a := a) (b := b) (by omega)).2]; go_enter Try.func18, Try.ntmps18; go_wp2; go_ret2; exact ⟨rfl, rfl⟩
    · by_cases h3 : 9223372036854775807 - b < a
      · rw [(add_f (a := a) (b := b) (by omega)).1, (add_f (a := a) (b := b) (by omega)).2]; go_enter Try.func18, Try.ntmps18; go_wp2; go_ret2; exact ⟨rfl, rfl⟩
      · rw [(add_t (a := a) (b := b) (by omega)).1, (add_t (a := a) (b := b) (by omega)).2]; go_enter Try.func18, Try.ntmps18; go_wp2; go_ret2; exact ⟨rfl, rfl⟩
theorem i_SubInt (a b : Int) (ha : -9223372036854775808 ≤ a ∧ a ≤ 9223372036854775807) (hb : -9223372036854775808 ≤ b ∧ b ≤ 9223372036854775807) (w : World) : Calls Try.prog 22 #[.int .i64 a, .int .i64 b] w fun e w' => e = .returned (.tuple #[.int .i64 (subV a b), .bool (subB a b)]) ∧ w = w' := by
  by_cases h1 : b < 0
  · rw [(sub_f (a := a) (b := b) (by omega)).1, (sub_f (a := a) (b := b) (by omega)).2]; go_enter Try.func22, Try.ntmps22; go_wp2; go_ret2; exact ⟨rfl, rfl⟩
  · by_cases h2 : a < b
    · rw [(sub_f (a := a) (b := b) (by omega)).1, (sub_f (a := a) (b := b) (by omega)).2]; go_enter Try.func22, Try.ntmps22; go_wp2; go_ret2; exact ⟨rfl, rfl⟩
    · rw [(sub_t (a := a) (b := b) (by omega)).1, (sub_t (a := a) (b := b) (by omega)).2]; go_enter Try.func22, Try.ntmps22; go_wp2; go_ret2; exact ⟨rfl, rfl⟩
theorem i_MulInt (a b : Int) (ha : -9223372036854775808 ≤ a ∧ a ≤ 9223372036854775807) (hb : -9223372036854775808 ≤ b ∧ b ≤ 9223372036854775807) (w : World) : Calls Try.prog 20 #[.int .i64 a, .int .i64 b] w fun e w' => e = .returned (.tuple #[.int .i64 (mulV a b), .bool (mulB a b)]) ∧ w = w' := by
  by_cases h1 : a < 0
  · rw [(mul_f (a := a) (b := b) (by omega)).1, (mul_f (a := a) (b := b) (by omega)).2]; go_enter Try.func20, Try.ntmps20; go_wp2; go_ret2; exact ⟨rfl, rfl⟩
  · by_cases h2 : b < 0
    · rw [(mul_f (a := a) (b := b) (by omega)).1, (mul_f (a := a) (b := b) (by omega)).2]; go_enter Try.func20, Try.ntmps20; go_wp2; go_ret2; exact ⟨rfl, rfl⟩
    · by_cases h0 : b = 0
      · subst h0
        rw [(mul_t (a := a) (b := 0) (by omega)).1, (mul_t (a := a) (b := 0) (by omega)).2]; go_enter Try.func20, Try.ntmps20; go_wp2; go_ret2; exact ⟨by simp, rfl⟩
      · have hp : 1 ≤ b := by omega
        have hq : a ≤ 9223372036854775807 / b ↔ a * b ≤ 9223372036854775807 := Int.le_ediv_iff_mul_le (by omega)
        have hab : 0 ≤ a * b := Int.mul_nonneg (by omega) (by omega)
        by_cases h3 : 9223372036854775807 / b < a
        · rw [(mul_f (a := a) (b := b) (by omega)).1, (mul_f (a := a) (b := b) (by omega)).2]; clear hq; go_enter Try.func20, Try.ntmps20; go_wp2; go_ret2; exact ⟨rfl, rfl⟩
        · have hle : a * b ≤ 9223372036854775807 := by omega
          rw [(mul_t (a := a) (b := b) (by omega)).1, (mul_t (a := a) (b := b) (by omega)).2]; clear hq; go_enter Try.func20, Try.ntmps20; go_wp2; go_ret2; exact ⟨rfl, rfl⟩

theorem s_AddInt (a b : Int) (ha : -9223372036854775808 ≤ a ∧ a ≤ 9223372036854775807) (hb : -9223372036854775808 ≤ b ∧ b ≤ 9223372036854775807) (w : World) : Calls Try.prog 17 #[.int .i64 a, .int .i64 b] w fun e w' => e = .returned (.tuple #[.int .i64 (addV a b), .bool (addB a b)]) ∧ w = w' := by
  by_cases h1 : a < 0
  · rw [(add_f (a := a) (b := b) (by omega)).1, (add_f (a := a) (b := b) (by omega)).2]; go_enter Try.func17, Try.ntmps17; go_wp2; go_ret2; exact ⟨rfl, rfl⟩
  · by_cases h2 : b < 0
    · rw [(add_f (a := a) (b := b) (by omega)).1, (add_f (a := a) (b := b) (by omega)).2]; go_enter Try.func17, Try.ntmps17; go_wp2; go_ret2; exact ⟨rfl, rfl⟩
    · by_cases h3 : 9223372036854775807 - b < a
      · rw [(add_f (a := a) (b := b) (by omega)).1, (add_f (a := a) (b := b) (by omega)).2]; go_enter Try.func17, Try.ntmps17; go_wp2; go_ret2; exact ⟨rfl, rfl⟩
      · rw [(add_t (a := a) (b := b) (by omega)).1, (add_t (a := a) (b := b) (by omega)).2]; go_enter Try.func17, Try.ntmps17; go_wp2; go_ret2; exact ⟨rfl, rfl⟩
theorem s_SubInt (a b : Int) (ha : -9223372036854775808 ≤ a ∧ a ≤ 9223372036854775807) (hb : -9223372036854775808 ≤ b ∧ b ≤ 9223372036854775807) (w : World) : Calls Try.prog 21 #[.int .i64 a, .int .i64 b] w fun e w' => e = .returned (.tuple #[.int .i64 (subV a b), .bool (subB a b)]) ∧ w = w' := by
  by_cases h1 : b < 0
  · rw [(sub_f (a := a) (b := b) (by omega)).1, (sub_f (a := a) (b := b) (by omega)).2]; go_enter Try.func21, Try.ntmps21; go_wp2; go_ret2; exact ⟨rfl, rfl⟩
  · by_cases h2 : a < b
    · rw [(sub_f (a := a) (b := b) (by omega)).1, (sub_f (a := a) (b := b) (by omega)).2]; go_enter Try.func21, Try.ntmps21; go_wp2; go_ret2; exact ⟨rfl, rfl⟩
    · rw [(sub_t (a := a) (b := b) (by omega)).1, (sub_t (a := a) (b := b) (by omega)).2]; go_enter Try.func21, Try.ntmps21; go_wp2; go_ret2; exact ⟨rfl, rfl⟩
theorem s_MulInt (a b : Int) (ha : -9223372036854775808 ≤ a ∧ a ≤ 9223372036854775807) (hb : -9223372036854775808 ≤ b ∧ b ≤ 9223372036854775807) (w : World) : Calls Try.prog 19 #[.int .i64 a, .int .i64 b] w fun e w' => e = .returned (.tuple #[.int .i64 (mulV a b), .bool (mulB a b)]) ∧ w = w' := by
  by_cases h1 : a < 0
  · rw [(mul_f (a := a) (b := b) (by omega)).1, (mul_f (a := a) (b := b) (by omega)).2]; go_enter Try.func19, Try.ntmps19; go_wp2; go_ret2; exact ⟨rfl, rfl⟩
  · by_cases h2 : b < 0
    · rw [(mul_f (a := a) (b := b) (by omega)).1, (mul_f (a := a) (b := b) (by omega)).2]; go_enter Try.func19, Try.ntmps19; go_wp2; go_ret2; exact ⟨rfl, rfl⟩
    · by_cases h0 : b = 0
      · subst h0
        rw [(mul_t (a := a) (b := 0) (by omega)).1, (mul_t (a := a) (b := 0) (by omega)).2]; go_enter Try.func19, Try.ntmps19; go_wp2; go_ret2; exact ⟨by simp, rfl⟩
      · have hp : 1 ≤ b := by omega
        have hq : a ≤ 9223372036854775807 / b ↔ a * b ≤ 9223372036854775807 := Int.le_ediv_iff_mul_le (by omega)
        have hab : 0 ≤ a * b := Int.mul_nonneg (by omega) (by omega)
        by_cases h3 : 9223372036854775807 / b < a
        · rw [(mul_f (a := a) (b := b) (by omega)).1, (mul_f (a := a) (b := b) (by omega)).2]; clear hq; go_enter Try.func19, Try.ntmps19; go_wp2; go_ret2; exact ⟨rfl, rfl⟩
        · have hle : a * b ≤ 9223372036854775807 := by omega
          rw [(mul_t (a := a) (b := b) (by omega)).1, (mul_t (a := a) (b := b) (by omega)).2]; clear hq; go_enter Try.func19, Try.ntmps19; go_wp2; go_ret2; exact ⟨rfl, rfl⟩
end Go.Proofs.Ytehhdnphpjmghaa
