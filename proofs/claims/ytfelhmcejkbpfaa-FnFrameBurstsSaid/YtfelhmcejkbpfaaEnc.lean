/-
  Plain mathematics of the encodings: variable-length numbers, and how they are read back. No program is named here. No conditions.
-/
import Derived.Test.YtfelhmcejkbpfaaCrc
namespace Go.Proofs.Ytfelhmcejkbpfaa
namespace Enc

/-- LEB128 with fuel. -/
def varF : Nat → Nat → List UInt8
  | 0, n => [UInt8.ofNat n]
  | f + 1, n => if n < 128 then [UInt8.ofNat n] else UInt8.ofNat (n % 128 + 128) :: varF f (n / 128)
def varL (n : Nat) : List UInt8 := varF 9 n

theorem varF_small (f n : Nat) (h : n < 128) : varF f n = [UInt8.ofNat n] := by
  cases f with
  | zero => rfl
  | succ f => simp [varF, h]
theorem varF_big (f n : Nat) (h : 128 ≤ n) : varF (f + 1) n = UInt8.ofNat (n % 128 + 128) :: varF f (n / 128) := by
  simp [varF, Nat.not_lt.2 h]
theorem div_128 {f n : Nat} (h : n < 128 ^ (f + 1 + 1)) : n / 128 < 128 ^ (f + 1) := by
  rw [Nat.pow_succ] at h
  exact Nat.div_lt_of_lt_mul (by rw [Nat.mul_comm]; exact h)
theorem varF_ne (f n : Nat) : varF f n ≠ [] := by
  cases f with
  | zero => simp [varF]
  | succ f => unfold varF; split <;> simp
theorem varF_len : ∀ f n, (varF f n).length ≤ f + 1 ∧ 1 ≤ (varF f n).length
  | 0, n => by simp [varF]
  | f + 1, n => by
    unfold varF
    split
    · simp
    · have := varF_len f (n / 128); simp; omega

/-- Reading back: from what is left of the text. 'fuel' rounds are left, k bytes have been read, they came to n. -/
def rd : Nat → Nat → Nat → List UInt8 → Option (Nat × Nat)
  | 0, _, _, _ => none
  | _ + 1, _, _, [] => none
  | f + 1, k, n, c :: t =>
    if c.toNat < 128 then (if c.toNat = 0 ∧ 0 < k then none else some (n + c.toNat * 128 ^ k, k + 1))
    else rd f (k + 1) (n + c.toNat % 128 * 128 ^ k) t

def rdB (l : List UInt8) : Bool := (rd 9 0 0 l).isSome
def rdN (l : List UInt8) : Nat := ((rd 9 0 0 l).map (·.1)).getD 0
def rdK (l : List UInt8) : Nat := ((rd 9 0 0 l).map (·.2)).getD 0

theorem rd_round : ∀ (f n k acc : Nat) (rest : List UInt8), n < 128 ^ (f + 1) → (n ≠ 0 ∨ k = 0) → rd (f + 1) k acc (varF f n ++ rest) = some (acc + n * 128 ^ k, k + (varF f n).length)
  | 0, n, k, acc, rest, hn, h0 => by
    have hn' : n < 128 := by simpa using hn
    have e : (UInt8.ofNat n).toNat = n := by rw [UInt8.toNat_ofNat']; omega
    simp only [varF, List.cons_append, List.nil_append, rd, e]
    rw [if_pos hn', if_neg (by omega)]
    simp
  | f + 1, n, k, acc, rest, hn, h0 => by
    by_cases hs : n < 128
    · have e : (UInt8.ofNat n).toNat = n := by rw [UInt8.toNat_ofNat']; omega
      rw [varF_small _ _ hs]
      simp only [List.cons_append, List.nil_append, rd, e]
      rw [if_pos hs, if_neg (by omega)]
      simp
    · have e : (UInt8.ofNat (n % 128 + 128)).toNat = n % 128 + 128 := by rw [UInt8.toNat_ofNat']; omega
      rw [varF_big _ _ (by omega)]
      simp only [List.cons_append, rd, e]
      rw [if_neg (by omega), rd_round f (n / 128) (k + 1) _ rest (div_128 hn) (by omega)]
      have e2 : (n % 128 + 128) % 128 = n % 128 := by omega
      rw [e2, List.length_cons]
      have e3 : acc + n % 128 * 128 ^ k + n / 128 * 128 ^ (k + 1) = acc + n * 128 ^ k := by
        rw [Nat.pow_succ]
        have : n = n % 128 + 128 * (n / 128) := by omega
        calc acc + n % 128 * 128 ^ k + n / 128 * (128 ^ k * 128) = acc + (n % 128 + 128 * (n / 128)) * 128 ^ k := by
              rw [Nat.add_mul]; have : n / 128 * (128 ^ k * 128) = 128 * (n / 128) * 128 ^ k := by ac_rfl
              omega
          _ = acc + n * 128 ^ k := by rw [← this]
      rw [e3]
      congr 2
      omega

theorem rd_var (n : Nat) (rest : List UInt8) (h : n < 2 ^ 63) : rd 9 0 0 (varL n ++ rest) = some (n, (varL n).length) := by
  have h8 : varL n = varF 8 n := by
    unfold varL
    have : ∀ f m, m < 128 ^ (f + 1) → varF (f + 1) m = varF f m := by
      intro f
      induction f with
      | zero => intro m hm; rw [varF_small _ _ (by simpa using hm), varF_small _ _ (by simpa using hm)]
      | succ f ih =>
        intro m hm
        by_cases hs : m < 128
        · rw [varF_small _ _ hs, varF_small _ _ hs]
        · rw [varF_big (f + 1) m (by omega), varF_big f m (by omega), ih (m / 128) (div_128 hm)]
    exact this 8 n (by have : (2 : Nat) ^ 63 = 128 ^ (8 + 1) := by decide
                       omega)
  rw [h8, rd_round 8 n 0 0 rest (by have : (2 : Nat) ^ 63 = 128 ^ (8 + 1) := by decide
                                    omega) (.inr rfl)]
  simp

/-- The last byte raised by 128. -/
def raise (l : List UInt8) : List UInt8 := l.set (l.length - 1) (UInt8.ofNat ((l.getD (l.length - 1) 0).toNat + 128))
theorem raise_one (c : UInt8) : raise [c] = [UInt8.ofNat (c.toNat + 128)] := rfl
theorem raise_cons (c : UInt8) (t : List UInt8) (h : t ≠ []) : raise (c :: t) = c :: raise t := by
  cases t with
  | nil => exact absurd rfl h
  | cons d t => rfl

/-- .. and a nought behind it: no number. -/
theorem rd_long : ∀ (f g n k acc : Nat), n < 128 ^ (f + 1) → rd g k acc (raise (varF f n) ++ [0]) = none
  | _, 0, _, _, _, _ => by simp [rd]
  | f, g + 1, n, k, acc, hn => by
    by_cases hs : n < 128
    · have e : (UInt8.ofNat n).toNat = n := by rw [UInt8.toNat_ofNat']; omega
      have e2 : (UInt8.ofNat (n + 128)).toNat = n + 128 := by rw [UInt8.toNat_ofNat']; omega
      rw [varF_small _ _ hs, raise_one, e]
      simp only [List.cons_append, List.nil_append, rd, e2]
      rw [if_neg (by omega)]
      cases g with
      | zero => rfl
      | succ g => simp [rd]
    · match f, hn with
      | 0, hn => exact absurd (by simpa using hn) hs
      | f + 1, hn =>
        have e : (UInt8.ofNat (n % 128 + 128)).toNat = n % 128 + 128 := by rw [UInt8.toNat_ofNat']; omega
        rw [varF_big _ _ (by omega), raise_cons _ _ (varF_ne _ _)]
        simp only [List.cons_append, rd, e]
        rw [if_neg (by omega)]
        exact rd_long f g (n / 128) (k + 1) _ (div_128 hn)
end Enc
end Go.Proofs.Ytfelhmcejkbpfaa
