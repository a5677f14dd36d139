/-
  Amounts: what a text is as an amount, what an amount's text is; the one is read back from the other. Plain lists and numbers (over the words of WSplit and WUnit). No conditions.
-/
import Derived.Test.YtpbflceekikbiaaDoorDec
import Derived.Test.YtpbflceekikbiaaDoorWSplit
import Derived.Test.YtpbflceekikbiaaDoorWUnit
import Derived.Lib.IndexBytes
namespace Go.Proofs.YtpbflceekikbiaaDoor
open Go.Lib Go.Proofs.YtpbflceekikbiaaDoor.Dec

theorem bs_list (l : List UInt8) : (⟨l.toArray⟩ : ByteArray).data.toList = l := by simp
theorem bs_size (l : List UInt8) : (⟨l.toArray⟩ : ByteArray).size = l.length := by simp [ByteArray.size]
theorem bs_eq {a b : ByteArray} (h : a.data.toList = b.data.toList) : a = b := ByteArray.ext (Array.toList_inj.1 h)
theorem bs_mk {a : ByteArray} {l : List UInt8} (h : a.data.toList = l) : a = ⟨l.toArray⟩ := bs_eq (by rw [h, bs_list])

def headZ (l : List UInt8) : Bool := l.head? == some 48
def readAmt (s : ByteArray) : Int × Int :=
  if 40 < s.size ∨ dn s.data.toList = 0 ∨ (1 < dn s.data.toList ∧ headZ s.data.toList = true) ∨ (unitR (s.extract (dn s.data.toList) s.size)).2 = false then (0, 1)
  else if (readI (s.data.toList.take (dn s.data.toList))).2 = false ∨ mulB (readI (s.data.toList.take (dn s.data.toList))).1 (unitR (s.extract (dn s.data.toList) s.size)).1 = false then (0, 2)
  else (mulV (readI (s.data.toList.take (dn s.data.toList))).1 (unitR (s.extract (dn s.data.toList) s.size)).1, 0)

theorem dn_digs : ∀ (d u : List UInt8), (∀ c ∈ d, isDig c) → dn u = 0 → dn (d ++ u) = d.length
  | [], u, _, h => h
  | c :: d, u, hd, h => by
    have hc := hd c (by simp)
    unfold isDig at hc
    show dn (c :: (d ++ u)) = _
    unfold dn
    rw [if_pos hc, dn_digs d u (fun x hx => hd x (by simp [hx])) h]
    simp
/-- A numeral and a suffix, read as an amount. -/
theorem read_parts (m : Nat) (u : List UInt8) (k : Int) (hm : m ≤ 9223372036854775807) (hu : dn u = 0) (hul : u.length ≤ 2) (hunit : unitR ⟨u.toArray⟩ = (k, true)) (hk : 0 ≤ k) (hmul : (m : Int) * k ≤ 9223372036854775807) :
    readAmt ⟨(decDigits m ++ u).toArray⟩ = ((m : Int) * k, 0) := by
  have hd := dn_digs (decDigits m) u (dec_dig m) hu
  have hl : (decDigits m).length ≤ 19 := dec_len 18 m (by omega)
  have h1 : 0 < (decDigits m).length := List.length_pos_iff.2 (dec_ne m)
  have ht : (decDigits m ++ u).take (decDigits m).length = decDigits m := List.take_left
  have he : (⟨(decDigits m ++ u).toArray⟩ : ByteArray).extract (decDigits m).length (⟨(decDigits m ++ u).toArray⟩ : ByteArray).size = ⟨u.toArray⟩ := by
    apply bs_mk
    rw [Lib.extract_to_end, bs_list]
    exact List.drop_left
  have hh : ¬ (1 < (decDigits m).length ∧ headZ (decDigits m ++ u) = true) := by
    intro ⟨a, b⟩
    by_cases h0 : m = 0
    · subst h0
      rw [dec_small (by omega)] at a
      simp at a
    · obtain ⟨c, r, e, h2, _⟩ := dec_head h0
      rw [e] at b
      simp [headZ] at b
      subst b
      revert h2
      decide
  unfold readAmt
  rw [bs_list, hd, ht, he, hunit, read_dec hm, bs_size, List.length_append]
  have hM := mul_t (a := (m : Int)) (b := k) ⟨by omega, hk, hmul⟩
  rw [if_neg (by simp only [not_or]; exact ⟨by omega, by omega, hh, by decide⟩)]
  simp only []
  rw [hM.1, hM.2, if_neg (by simp)]

def upF : Nat → Nat → Nat → Nat × Nat
  | 0, u, k => (u, k)
  | f + 1, u, k => if 0 < u ∧ u % 1024 = 0 then upF f (u / 1024) (k + 1) else (u, k)
def sufK (k : Nat) : List UInt8 := [[], [75, 105], [77, 105], [71, 105], [84, 105]].getD k []
theorem up_val : ∀ (f u k : Nat), (upF f u k).1 * 1024 ^ (upF f u k).2 = u * 1024 ^ k ∧ (upF f u k).2 ≤ k + f ∧ (upF f u k).1 ≤ u
  | 0, u, k => ⟨rfl, Nat.le_refl _, Nat.le_refl _⟩
  | f + 1, u, k => by
    unfold upF
    by_cases h : 0 < u ∧ u % 1024 = 0
    · rw [if_pos h]
      obtain ⟨h1, h2, h3⟩ := up_val f (u / 1024) (k + 1)
      refine ⟨?_, by omega, by omega⟩
      rw [h1, Nat.pow_succ, ← Nat.mul_assoc, Nat.mul_right_comm, Nat.div_mul_cancel (Nat.dvd_of_mod_eq_zero h.2)]
    · rw [if_neg h]
      exact ⟨rfl, by omega, Nat.le_refl _⟩
def amtL (n : Int) : List UInt8 :=
  if n < 0 then [] else if n % 1000 ≠ 0 then decDigits n.toNat ++ [109] else decDigits (upF 4 (n.toNat / 1000) 0).1 ++ sufK (upF 4 (n.toNat / 1000) 0).2
theorem unit_m : unitR ⟨#[109]⟩ = (1, true) := by decide +kernel
theorem unit_0 : unitR ⟨#[]⟩ = (1000, true) := by decide +kernel
theorem unit_1 : unitR ⟨#[75, 105]⟩ = (1024000, true) := by decide +kernel
theorem unit_2 : unitR ⟨#[77, 105]⟩ = (1048576000, true) := by decide +kernel
theorem unit_3 : unitR ⟨#[71, 105]⟩ = (1073741824000, true) := by decide +kernel
theorem unit_4 : unitR ⟨#[84, 105]⟩ = (1099511627776000, true) := by decide +kernel
theorem read_m {n : Nat} (h : n ≤ 9223372036854775807) : readAmt ⟨(decDigits n ++ [109]).toArray⟩ = ((n : Int), 0) := by
  have := read_parts n [109] 1 h (by decide) (by decide) unit_m (by omega) (by omega)
  rw [Int.mul_one] at this
  exact this
theorem read_amt {n : Int} (h0 : 0 ≤ n) (h : n ≤ 9223372036854775807) : readAmt ⟨(amtL n).toArray⟩ = (n, 0) := by
  obtain ⟨m, rfl⟩ : ∃ m : Nat, n = (m : Int) := ⟨n.toNat, by omega⟩
  unfold amtL
  rw [if_neg (by omega)]
  by_cases hd : (m : Int) % 1000 ≠ 0
  · rw [if_pos hd]
    exact read_m (by omega)
  · rw [if_neg hd]
    obtain ⟨h1, h2, h3⟩ := up_val 4 (m / 1000) 0
    simp only [Int.toNat_natCast]
    generalize hx : upF 4 (m / 1000) 0 = x at h1 h2 h3
    obtain ⟨u, k⟩ := x
    simp only [Nat.pow_zero, Nat.mul_one] at h1 h2 h3
    have hk : k = 0 ∨ k = 1 ∨ k = 2 ∨ k = 3 ∨ k = 4 := by omega
    rcases hk with rfl | rfl | rfl | rfl | rfl
    · have := read_parts u [] 1000 (by omega) rfl (by decide) unit_0 (by omega) (by omega)
      rw [show (u : Int) * 1000 = (m : Int) by omega] at this
      exact this
    · have := read_parts u [75, 105] 1024000 (by omega) (by decide) (by decide) unit_1 (by omega) (by omega)
      rw [show (u : Int) * 1024000 = (m : Int) by omega] at this
      exact this
    · have := read_parts u [77, 105] 1048576000 (by omega) (by decide) (by decide) unit_2 (by omega) (by omega)
      rw [show (u : Int) * 1048576000 = (m : Int) by omega] at this
      exact this
    · have := read_parts u [71, 105] 1073741824000 (by omega) (by decide) (by decide) unit_3 (by omega) (by omega)
      rw [show (u : Int) * 1073741824000 = (m : Int) by omega] at this
      exact this
    · have := read_parts u [84, 105] 1099511627776000 (by omega) (by decide) (by decide) unit_4 (by omega) (by omega)
      rw [show (u : Int) * 1099511627776000 = (m : Int) by omega] at this
      exact this
end Go.Proofs.YtpbflceekikbiaaDoor
