/-
  Plain facts on bits of 64-bit integers, in the walk's spelling. No conditions beyond ranges.
-/
import Derived.Test.YtpbflceekikbiaaDoorKit
import Derived.Laws.BitsAllLaws
import Derived.Lib.QuoteBits
namespace Go.Proofs.YtpbflceekikbiaaDoor
open Go.RowKit

theorem or_i64 (a b : Nat) (ha : a < 9223372036854775808) (hb : b < 9223372036854775808) : bits .or .i64 (a : Int) (b : Int) = ((a ||| b : Nat) : Int) := by
  show IntKind.i64.wrap ((BitVec.ofInt 64 (a : Int) ||| BitVec.ofInt 64 (b : Int)).toNat : Int) = _
  rw [BitVec.toNat_or, ofInt_u64 a (by omega), ofInt_u64 b (by omega)]
  have : a ||| b < 2 ^ 63 := Nat.or_lt_two_pow (by omega) (by omega)
  exact Lib.wrap_i64_small _ (by omega)
theorem xor_i64 (a b : Nat) (ha : a < 9223372036854775808) (hb : b < 9223372036854775808) : bits .xor .i64 (a : Int) (b : Int) = ((a ^^^ b : Nat) : Int) := by
  show IntKind.i64.wrap ((BitVec.ofInt 64 (a : Int) ^^^ BitVec.ofInt 64 (b : Int)).toNat : Int) = _
  rw [BitVec.toNat_xor, ofInt_u64 a (by omega), ofInt_u64 b (by omega)]
  have : a ^^^ b < 2 ^ 63 := Nat.xor_lt_two_pow (by omega) (by omega)
  exact Lib.wrap_i64_small _ (by omega)
theorem and_i64 (a b : Nat) (ha : a < 9223372036854775808) (hb : b < 9223372036854775808) : bits .and .i64 (a : Int) (b : Int) = ((a &&& b : Nat) : Int) := by
  show IntKind.i64.wrap ((BitVec.ofInt 64 (a : Int) &&& BitVec.ofInt 64 (b : Int)).toNat : Int) = _
  rw [BitVec.toNat_and, ofInt_u64 a (by omega), ofInt_u64 b (by omega)]
  have : a &&& b ≤ a := Nat.and_le_left
  exact Lib.wrap_i64_small _ (by omega)
theorem and_127 (c : Nat) (hc : c < 9223372036854775808) : bits .and .i64 (c : Int) 127 = ((c % 128 : Nat) : Int) := by
  rw [show (127 : Int) = ((127 : Nat) : Int) from rfl, and_i64 _ _ hc (by omega), nat_mask7]
theorem and_1 (c : Nat) (hc : c < 9223372036854775808) : bits .and .i64 (c : Int) 1 = ((c % 2 : Nat) : Int) := by
  rw [show (1 : Int) = ((1 : Nat) : Int) from rfl, and_i64 _ _ hc (by omega), nat_mask1]

theorem pow128 (k : Nat) : (2 : Int) ^ (7 * k) = ((128 ^ k : Nat) : Int) := by
  rw [Int.pow_mul]; simp
theorem pow128_le {k : Nat} (hk : k ≤ 9) : 128 ^ k ≤ 9223372036854775808 := by
  have : (128 : Nat) ^ k ≤ 128 ^ 9 := Nat.pow_le_pow_right (by decide) hk
  have e : (128 : Nat) ^ 9 = 9223372036854775808 := by decide
  omega
theorem grp_lt {N k c : Nat} (hN : N < 128 ^ k) : N + c % 128 * 128 ^ k < 128 ^ (k + 1) := by
  rw [Nat.pow_succ]
  have h1 : c % 128 * 128 ^ k ≤ 127 * 128 ^ k := Nat.mul_le_mul_right _ (by omega)
  omega
theorem sh_in {N k c : Nat} (hN : N < 128 ^ k) (hk : k < 9) : wrap64 ((c : Int) % 128 * 2 ^ (7 * k)) = ((c % 128 * 128 ^ k : Nat) : Int) ∧ c % 128 * 128 ^ k < 9223372036854775808 := by
  have h1 := grp_lt (c := c) hN
  have h2 := pow128_le (k := k + 1) (by omega)
  have e : (c : Int) % 128 * 2 ^ (7 * k) = ((c % 128 * 128 ^ k : Nat) : Int) := by rw [pow128, Int.natCast_mul]; rfl
  rw [e]
  exact ⟨IntWalk.wrap64_in _ ⟨by omega, by omega⟩, by omega⟩
theorem sh_add {N k c : Nat} (hN : N < 128 ^ k) (hk : k < 9) : wrap64 ((N : Int) + wrap64 ((c : Int) % 128 * 2 ^ (7 * k))) = ((N + c % 128 * 128 ^ k : Nat) : Int) := by
  have h1 := grp_lt (c := c) hN
  have h2 := pow128_le (k := k + 1) (by omega)
  rw [(sh_in hN hk).1, ← Int.natCast_add]
  exact IntWalk.wrap64_in _ ⟨by omega, by omega⟩
theorem or_add (N x k : Nat) (hN : N < 2 ^ k) : N ||| x * 2 ^ k = N + x * 2 ^ k := by
  rw [Nat.or_comm, nat_join k (x * 2 ^ k) N (by simp) hN, Nat.add_comm]
theorem sh_or {N k c : Nat} (hN : N < 128 ^ k) (hk : k < 9) (hc : c < 256) : bits .or .i64 (N : Int) (wrap64 (bits .and .i64 (c : Int) 127 * 2 ^ (7 * k))) = ((N + c % 128 * 128 ^ k : Nat) : Int) := by
  have h1 := grp_lt (c := c) hN
  have h2 := pow128_le (k := k + 1) (by omega)
  have e := sh_in (c := c) hN hk
  rw [and_127 c (by omega), show ((c % 128 : Nat) : Int) = (c : Int) % 128 from rfl, e.1, or_i64 _ _ (by omega) (by omega)]
  have e2 : (128 : Nat) ^ k = 2 ^ (7 * k) := by rw [Nat.pow_mul]
  rw [e2, or_add _ _ _ (by rw [← e2]; exact hN)]
end Go.Proofs.YtpbflceekikbiaaDoor
