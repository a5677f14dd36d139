/-
  Runes decoded and encoded: when the encoding of what the bytes spell is those bytes again. No conditions.
-/
import Derived.Test.YtedmfoogllekeaaDoorWRune
import Derived.Lib.DecodeN
import Derived.Lib.TrimUEq
namespace Go.Proofs.YtedmfoogllekeaaDoor
open Go.RowKit

theorem rt_none {n : Nat} (h : 1114111 < n ∨ (55296 ≤ n ∧ n ≤ 57343)) : runeT (n : Int) = ⟨#[]⟩ := by
  refine if_neg ?_
  intro hc
  have := rok_parts hc
  omega
theorem rok_of {n : Nat} (h : n ≤ 1114111) (h2 : n < 55296 ∨ 57343 < n) : runeOkB (n : Int) = true := by
  unfold runeOkB inB
  simp
  omega
theorem rt_1 {n : Nat} (h : n < 128) : runeT (n : Int) = ⟨#[UInt8.ofNat n]⟩ := by
  have ho := rok_of (n := n) (by omega) (by omega)
  unfold runeT
  rw [if_pos ho, enc1 h (rok_valid ho)]
theorem rt_2 {n : Nat} (h0 : ¬ n < 128) (h : n < 2048) : runeT (n : Int) = ⟨#[UInt8.ofNat (192 + n / 64), UInt8.ofNat (128 + n % 64)]⟩ := by
  have ho := rok_of (n := n) (by omega) (by omega)
  unfold runeT
  rw [if_pos ho, enc2 h0 h (rok_valid ho)]
theorem rt_3 {n : Nat} (h0 : ¬ n < 2048) (h : n < 65536) (h2 : n < 55296 ∨ 57343 < n) : runeT (n : Int) = ⟨#[UInt8.ofNat (224 + n / 4096), UInt8.ofNat (128 + n / 64 % 64), UInt8.ofNat (128 + n % 64)]⟩ := by
  have ho := rok_of (n := n) (by omega) h2
  unfold runeT
  rw [if_pos ho, enc3 h0 h (rok_valid ho)]
theorem rt_4 {n : Nat} (h0 : ¬ n < 65536) (h : n ≤ 1114111) : runeT (n : Int) = ⟨#[UInt8.ofNat (240 + n / 262144), UInt8.ofNat (128 + n / 4096 % 64), UInt8.ofNat (128 + n / 64 % 64), UInt8.ofNat (128 + n % 64)]⟩ := by
  have ho := rok_of (n := n) (by omega) (by omega)
  unfold runeT
  rw [if_pos ho, enc4 h0 (rok_valid ho)]
theorem bsx {a b : ByteArray} (h : a.data.toList = b.data.toList) : a = b := ByteArray.ext (Array.toList_inj.1 h)
theorem ofNat_self (x : UInt8) {m : Nat} (h : m = x.toNat) : UInt8.ofNat m = x := by subst h; simp

/-- What the bytes from a place on spell: the rune and its width, or none. -/
def raD (s : ByteArray) (p : Nat) : Option (Nat × Nat) :=
  if (Utf8.decode s p).1 = 65533 ∧ (Utf8.decode s p).2 ≤ 1 then none else some (Utf8.decode s p)
def raV (s : ByteArray) (a : Int) : Int × Int :=
  if a < 0 ∨ (s.size : Int) ≤ a then (0, -1) else match raD s a.toNat with
    | none => (0, -1)
    | some d => ((d.1 : Int), a + (d.2 : Int))
def bAt (s : ByteArray) (k : Nat) : Nat := (s.data.toList.getD k 0).toNat
theorem bAt_lt (s : ByteArray) (k : Nat) : bAt s k < 256 := UInt8.toNat_lt _
theorem bAt_get (s : ByteArray) (k : Nat) (h : k < s.size) : s[k].toNat = bAt s k := by
  unfold bAt
  have h' : k < s.data.toList.length := by simpa using h
  simp [List.getD, List.getElem?_eq_getElem h']
  rfl
theorem dec_N (s : ByteArray) (p : Nat) : Utf8.decode s p = Lib.decodeN (s.size - p) (bAt s p) (bAt s (p + 1)) (bAt s (p + 2)) (bAt s (p + 3)) := by
  rw [Lib.decode_N]
  simp [bAt]
theorem decode_err {n b0 b1 b2 b3 : Nat} : Lib.decodeN n b0 b1 b2 b3 = (65533, 1) → ((Lib.decodeN n b0 b1 b2 b3).1 = 65533 ∧ (Lib.decodeN n b0 b1 b2 b3).2 ≤ 1) := by
  intro h
  rw [h]
  exact ⟨rfl, by decide⟩
theorem cut_list (s : ByteArray) (p k : Nat) : (s.extract p (p + k)).data.toList = (s.data.toList.drop p).take k := by
  rw [Lib.extract_data, show p + k - p = k by omega]
theorem byte_of (s : ByteArray) (k : Nat) (h : k < s.size) : s.data.toList.drop k = UInt8.ofNat (bAt s k) :: s.data.toList.drop (k + 1) := by
  have h' : k < s.data.toList.length := by simpa using h
  rw [List.drop_eq_getElem_cons h']
  congr 1
  refine (ofNat_self _ ?_).symm
  unfold bAt
  simp [List.getD, List.getElem?_eq_getElem h']

/-- One byte. -/
theorem at_1 {s : ByteArray} {p : Nat} (hp : p < s.size) (h : bAt s p < 128) : raD s p = some (bAt s p, 1) ∧ runeT (bAt s p : Int) = s.extract p (p + 1) := by
  refine ⟨?_, ?_⟩
  · unfold raD
    rw [dec_N]
    have e : Lib.decodeN (s.size - p) (bAt s p) (bAt s (p + 1)) (bAt s (p + 2)) (bAt s (p + 3)) = (bAt s p, 1) := if_pos h
    rw [e, if_neg (by simp only []; omega)]
  · rw [rt_1 h]
    apply ByteArray.ext
    apply Array.toList_inj.1
    rw [cut_list, byte_of s p hp]
    simp
theorem at_lone {s : ByteArray} {p : Nat} (h0 : ¬ bAt s p < 128) (h : bAt s p < 192) : raD s p = none ∧ runeT (bAt s p : Int) ≠ s.extract p (p + 1) := by
  refine ⟨?_, ?_⟩
  · unfold raD
    rw [dec_N]
    have e : Lib.decodeN (s.size - p) (bAt s p) (bAt s (p + 1)) (bAt s (p + 2)) (bAt s (p + 3)) = (65533, 1) := by
      unfold Lib.decodeN
      rw [if_neg h0, if_neg (by omega), if_neg (by omega), if_neg (by omega)]
    rw [e, if_pos ⟨rfl, by decide⟩]
  · rw [rt_2 h0 (by omega)]
    intro hc
    have := congrArg (fun b : ByteArray => b.data.toList.length) hc
    simp only [cut_list] at this
    have h2 : ((s.data.toList.drop p).take 1).length ≤ 1 := List.length_take_le _ _
    simp at this
    omega
/-- Too few bytes, or one of them continues nothing. -/
theorem bad_2 {s : ByteArray} {p : Nat} (h : 192 ≤ bAt s p ∧ bAt s p < 224) (hb : s.size - p ≤ 1 ∨ ¬ (128 ≤ bAt s (p + 1) ∧ bAt s (p + 1) ≤ 191)) : raD s p = none := by
  unfold raD
  rw [dec_N]
  have e : Lib.decodeN (s.size - p) (bAt s p) (bAt s (p + 1)) (bAt s (p + 2)) (bAt s (p + 3)) = (65533, 1) := by
    unfold Lib.decodeN
    rw [if_neg (by omega), if_neg (by omega), if_neg (by omega), if_neg (by omega)]
  rw [e, if_pos ⟨rfl, by decide⟩]
theorem bad_3 {s : ByteArray} {p : Nat} (h : 224 ≤ bAt s p ∧ bAt s p < 240) (hb : s.size - p ≤ 2 ∨ ¬ (128 ≤ bAt s (p + 1) ∧ bAt s (p + 1) ≤ 191) ∨ ¬ (128 ≤ bAt s (p + 2) ∧ bAt s (p + 2) ≤ 191)) : raD s p = none := by
  unfold raD
  rw [dec_N]
  have e : Lib.decodeN (s.size - p) (bAt s p) (bAt s (p + 1)) (bAt s (p + 2)) (bAt s (p + 3)) = (65533, 1) := by
    unfold Lib.decodeN
    rw [if_neg (by omega), if_neg (by omega), if_neg (by omega), if_neg (by omega)]
  rw [e, if_pos ⟨rfl, by decide⟩]
theorem bad_4 {s : ByteArray} {p : Nat} (h : 240 ≤ bAt s p) (hb : s.size - p ≤ 3 ∨ ¬ (128 ≤ bAt s (p + 1) ∧ bAt s (p + 1) ≤ 191) ∨ ¬ (128 ≤ bAt s (p + 2) ∧ bAt s (p + 2) ≤ 191) ∨ ¬ (128 ≤ bAt s (p + 3) ∧ bAt s (p + 3) ≤ 191)) : raD s p = none := by
  unfold raD
  rw [dec_N]
  have e : Lib.decodeN (s.size - p) (bAt s p) (bAt s (p + 1)) (bAt s (p + 2)) (bAt s (p + 3)) = (65533, 1) := by
    unfold Lib.decodeN
    rw [if_neg (by omega), if_neg (by omega), if_neg (by omega), if_neg (by omega)]
  rw [e, if_pos ⟨rfl, by decide⟩]
def n2 (b0 b1 : Nat) : Nat := 64 * (b0 - 192) + (b1 - 128)
def n3 (b0 b1 b2 : Nat) : Nat := 64 * (64 * (b0 - 224) + (b1 - 128)) + (b2 - 128)
def n4 (b0 b1 b2 b3 : Nat) : Nat := 64 * (64 * (64 * (b0 - 240) + (b1 - 128)) + (b2 - 128)) + (b3 - 128)
theorem len_ne {a b : ByteArray} (h : a.data.toList.length ≠ b.data.toList.length) : a ≠ b := fun e => h (by rw [e])
theorem cut_len {s : ByteArray} {p k : Nat} (h : p + k ≤ s.size) : (s.extract p (p + k)).data.toList.length = k := by
  rw [cut_list]
  simp
  omega
theorem at_2 {s : ByteArray} {p : Nat} (hp : p + 2 ≤ s.size) (h : 192 ≤ bAt s p ∧ bAt s p < 224) (h1 : 128 ≤ bAt s (p + 1) ∧ bAt s (p + 1) ≤ 191) :
    (raD s p = some (n2 (bAt s p) (bAt s (p + 1)), 2) ∧ runeT (n2 (bAt s p) (bAt s (p + 1)) : Int) = s.extract p (p + 2)) ∨ (raD s p = none ∧ runeT (n2 (bAt s p) (bAt s (p + 1)) : Int) ≠ s.extract p (p + 2)) := by
  have hn : bAt s p % 32 * 64 + bAt s (p + 1) % 64 = n2 (bAt s p) (bAt s (p + 1)) := by unfold n2; omega
  by_cases hv : 128 ≤ n2 (bAt s p) (bAt s (p + 1))
  · left
    have hlt : n2 (bAt s p) (bAt s (p + 1)) < 2048 := by unfold n2; omega
    refine ⟨?_, ?_⟩
    · unfold raD
      rw [dec_N]
      have e : Lib.decodeN (s.size - p) (bAt s p) (bAt s (p + 1)) (bAt s (p + 2)) (bAt s (p + 3)) = (n2 (bAt s p) (bAt s (p + 1)), 2) := by
        unfold Lib.decodeN
        rw [if_neg (by omega), if_pos ⟨by omega, by omega, by omega⟩, hn, if_pos hv]
      rw [e, if_neg (by simp only []; omega)]
    · rw [rt_2 (by omega) hlt]
      apply bsx
      rw [cut_list, byte_of s p (by omega), byte_of s (p + 1) (by omega)]
      have e1 : 192 + n2 (bAt s p) (bAt s (p + 1)) / 64 = bAt s p := by unfold n2; omega
      have e2 : 128 + n2 (bAt s p) (bAt s (p + 1)) % 64 = bAt s (p + 1) := by unfold n2; omega
      rw [e1, e2]
      simp
  · right
    refine ⟨?_, ?_⟩
    · unfold raD
      rw [dec_N]
      have e : Lib.decodeN (s.size - p) (bAt s p) (bAt s (p + 1)) (bAt s (p + 2)) (bAt s (p + 3)) = (65533, 1) := by
        unfold Lib.decodeN
        rw [if_neg (by omega), if_pos ⟨by omega, by omega, by omega⟩, hn, if_neg (by omega)]
      rw [e, if_pos ⟨rfl, by decide⟩]
    · apply len_ne
      rw [cut_len hp, rt_1 (by omega)]
      simp
theorem at_3 {s : ByteArray} {p : Nat} (hp : p + 3 ≤ s.size) (h : 224 ≤ bAt s p ∧ bAt s p < 240) (h1 : 128 ≤ bAt s (p + 1) ∧ bAt s (p + 1) ≤ 191) (h2 : 128 ≤ bAt s (p + 2) ∧ bAt s (p + 2) ≤ 191) :
    (raD s p = some (n3 (bAt s p) (bAt s (p + 1)) (bAt s (p + 2)), 3) ∧ runeT (n3 (bAt s p) (bAt s (p + 1)) (bAt s (p + 2)) : Int) = s.extract p (p + 3)) ∨ (raD s p = none ∧ runeT (n3 (bAt s p) (bAt s (p + 1)) (bAt s (p + 2)) : Int) ≠ s.extract p (p + 3)) := by
  have hn : bAt s p % 16 * 4096 + bAt s (p + 1) % 64 * 64 + bAt s (p + 2) % 64 = n3 (bAt s p) (bAt s (p + 1)) (bAt s (p + 2)) := by unfold n3; omega
  have e1 : 224 + n3 (bAt s p) (bAt s (p + 1)) (bAt s (p + 2)) / 4096 = bAt s p := by unfold n3; omega
  have e2 : 128 + n3 (bAt s p) (bAt s (p + 1)) (bAt s (p + 2)) / 64 % 64 = bAt s (p + 1) := by unfold n3; omega
  have e3 : 128 + n3 (bAt s p) (bAt s (p + 1)) (bAt s (p + 2)) % 64 = bAt s (p + 2) := by unfold n3; omega
  have hlt : n3 (bAt s p) (bAt s (p + 1)) (bAt s (p + 2)) < 65536 := by unfold n3; omega
  generalize n3 (bAt s p) (bAt s (p + 1)) (bAt s (p + 2)) = N at hn e1 e2 e3 hlt ⊢
  by_cases hv : 2048 ≤ N ∧ (N < 55296 ∨ 57344 ≤ N)
  · left
    refine ⟨?_, ?_⟩
    · unfold raD
      rw [dec_N]
      have e : Lib.decodeN (s.size - p) (bAt s p) (bAt s (p + 1)) (bAt s (p + 2)) (bAt s (p + 3)) = (N, 3) := by
        unfold Lib.decodeN
        rw [if_neg (by omega), if_neg (by omega), if_pos ⟨by omega, ⟨by omega, by omega⟩, by omega, by omega⟩, hn, if_pos ⟨hv.1, by omega⟩]
      rw [e, if_neg (by simp only []; omega)]
    · rw [rt_3 (by omega) hlt (by omega), e1, e2, e3]
      apply bsx
      rw [cut_list, byte_of s p (by omega), byte_of s (p + 1) (by omega), byte_of s (p + 1 + 1) (by omega)]
      simp
  · right
    refine ⟨?_, ?_⟩
    · unfold raD
      rw [dec_N]
      have e : Lib.decodeN (s.size - p) (bAt s p) (bAt s (p + 1)) (bAt s (p + 2)) (bAt s (p + 3)) = (65533, 1) := by
        unfold Lib.decodeN
        rw [if_neg (by omega), if_neg (by omega), if_pos ⟨by omega, ⟨by omega, by omega⟩, by omega, by omega⟩, hn, if_neg (by omega)]
      rw [e, if_pos ⟨rfl, by decide⟩]
    · apply len_ne
      rw [cut_len hp]
      by_cases a1 : N < 128
      · rw [rt_1 a1]; simp
      · by_cases a2 : N < 2048
        · rw [rt_2 a1 a2]; simp
        · rw [rt_none (by omega)]; simp
theorem at_4 {s : ByteArray} {p : Nat} (hp : p + 4 ≤ s.size) (h : 240 ≤ bAt s p) (h1 : 128 ≤ bAt s (p + 1) ∧ bAt s (p + 1) ≤ 191) (h2 : 128 ≤ bAt s (p + 2) ∧ bAt s (p + 2) ≤ 191) (h3 : 128 ≤ bAt s (p + 3) ∧ bAt s (p + 3) ≤ 191) :
    (raD s p = some (n4 (bAt s p) (bAt s (p + 1)) (bAt s (p + 2)) (bAt s (p + 3)), 4) ∧ runeT (n4 (bAt s p) (bAt s (p + 1)) (bAt s (p + 2)) (bAt s (p + 3)) : Int) = s.extract p (p + 4)) ∨ (raD s p = none ∧ runeT (n4 (bAt s p) (bAt s (p + 1)) (bAt s (p + 2)) (bAt s (p + 3)) : Int) ≠ s.extract p (p + 4)) := by
  have hb := bAt_lt s p
  have e1 : 240 + n4 (bAt s p) (bAt s (p + 1)) (bAt s (p + 2)) (bAt s (p + 3)) / 262144 = bAt s p := by unfold n4; omega
  have e2 : 128 + n4 (bAt s p) (bAt s (p + 1)) (bAt s (p + 2)) (bAt s (p + 3)) / 4096 % 64 = bAt s (p + 1) := by unfold n4; omega
  have e3 : 128 + n4 (bAt s p) (bAt s (p + 1)) (bAt s (p + 2)) (bAt s (p + 3)) / 64 % 64 = bAt s (p + 2) := by unfold n4; omega
  have e4 : 128 + n4 (bAt s p) (bAt s (p + 1)) (bAt s (p + 2)) (bAt s (p + 3)) % 64 = bAt s (p + 3) := by unfold n4; omega
  have hn : bAt s p < 248 → bAt s p % 8 * 262144 + bAt s (p + 1) % 64 * 4096 + bAt s (p + 2) % 64 * 64 + bAt s (p + 3) % 64 = n4 (bAt s p) (bAt s (p + 1)) (bAt s (p + 2)) (bAt s (p + 3)) := by unfold n4; omega
  have hbig : ¬ bAt s p < 248 → 1114111 < n4 (bAt s p) (bAt s (p + 1)) (bAt s (p + 2)) (bAt s (p + 3)) := by unfold n4; omega
  generalize n4 (bAt s p) (bAt s (p + 1)) (bAt s (p + 2)) (bAt s (p + 3)) = N at hn e1 e2 e3 e4 hbig ⊢
  by_cases hv : 65536 ≤ N ∧ N ≤ 1114111
  · left
    have h8 : bAt s p < 248 := by omega
    refine ⟨?_, ?_⟩
    · unfold raD
      rw [dec_N]
      have e : Lib.decodeN (s.size - p) (bAt s p) (bAt s (p + 1)) (bAt s (p + 2)) (bAt s (p + 3)) = (N, 4) := by
        unfold Lib.decodeN
        rw [if_neg (by omega), if_neg (by omega), if_neg (by omega), if_pos ⟨by omega, ⟨by omega, by omega⟩, ⟨by omega, by omega⟩, by omega, by omega⟩, hn h8, if_pos ⟨hv.1, by omega⟩]
      rw [e, if_neg (by simp only []; omega)]
    · rw [rt_4 (by omega) hv.2, e1, e2, e3, e4]
      apply bsx
      rw [cut_list, byte_of s p (by omega), byte_of s (p + 1) (by omega), byte_of s (p + 1 + 1) (by omega), byte_of s (p + 1 + 1 + 1) (by omega)]
      simp
  · right
    refine ⟨?_, ?_⟩
    · unfold raD
      rw [dec_N]
      have e : Lib.decodeN (s.size - p) (bAt s p) (bAt s (p + 1)) (bAt s (p + 2)) (bAt s (p + 3)) = (65533, 1) := by
        by_cases h8 : bAt s p < 248
        · unfold Lib.decodeN
          rw [if_neg (by omega), if_neg (by omega), if_neg (by omega), if_pos ⟨by omega, ⟨by omega, by omega⟩, ⟨by omega, by omega⟩, by omega, by omega⟩, hn h8, if_neg (by omega)]
        · unfold Lib.decodeN
          rw [if_neg (by omega), if_neg (by omega), if_neg (by omega), if_neg (by omega)]
      rw [e, if_pos ⟨rfl, by decide⟩]
    · apply len_ne
      rw [cut_len hp]
      by_cases a0 : 1114111 < N
      · rw [rt_none (.inl a0)]; simp
      · by_cases a1 : N < 128
        · rw [rt_1 a1]; simp
        · by_cases a2 : N < 2048
          · rw [rt_2 a1 a2]; simp
          · by_cases a3 : N < 55296 ∨ 57343 < N
            · rw [rt_3 a2 (by omega) a3]; simp
            · rw [rt_none (by omega)]; simp
end Go.Proofs.YtedmfoogllekeaaDoor
