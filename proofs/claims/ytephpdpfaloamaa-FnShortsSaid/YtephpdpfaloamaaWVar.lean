/-
  VarText (both sides): the bytes of a variable-length number. No conditions.
-/
import Derived.Test.YtephpdpfaloamaaBytes
import Derived.Test.YtephpdpfaloamaaEnc
import Derived.Laws.BitsAllLaws
namespace Go.Proofs.Ytephpdpfaloamaa
open Go.RowKit

def varText (n : Int) : List UInt8 := if n < 0 then [] else Enc.varL n.toNat

theorem ofNat_toInt {x : Nat} (h : x < 256) : ((UInt8.ofNat x).toNat : Int) = (x : Int) := by
  rw [UInt8.toNat_ofNat']; omega
theorem var_round {f m : Nat} {acc l : List UInt8} (h : Hid (acc ++ Enc.varF f m = l)) (hm : 128 ≤ m) (hf : m < 128 ^ (f + 1)) :
    ∃ g, f = g + 1 ∧ Hid ((acc ++ [UInt8.ofNat (m % 128 + 128)]) ++ Enc.varF g (m / 128) = l) ∧ m / 128 < 128 ^ (g + 1) := by
  cases f with
  | zero => simp at hf; omega
  | succ g =>
    refine ⟨g, rfl, ?_, Enc.div_128 hf⟩
    have h := h.out
    rw [Enc.varF_big _ _ hm] at h
    show _ = l
    rw [List.append_assoc]
    exact h
theorem var_last {f m : Nat} {acc l : List UInt8} (h : Hid (acc ++ Enc.varF f m = l)) (hm : m < 128) : acc ++ [UInt8.ofNat m] = l := by
  rw [← h.out, Enc.varF_small _ _ hm]
theorem pow_9 {n : Nat} (h : n ≤ 9223372036854775807) : n < 128 ^ (9 + 1) := by
  have : (128 : Nat) ^ (9 + 1) = 1180591620717411303424 := by decide
  omega

theorem or_128 (m : Nat) : bits .or .u8 ((m : Int) % 256) 128 = ((UInt8.ofNat (m % 128 + 128)).toNat : Int) := by
  rw [ofNat_toInt (by omega), show ((m : Int) % 256) = ((m % 256 : Nat) : Int) from rfl, show (128 : Int) = ((128 : Nat) : Int) from rfl, u8_or_nat _ _ (by omega) (by omega)]
  have key : m % 256 ||| 128 = m % 128 + 128 := by
    have h1 : 128 ||| m % 128 = 128 + m % 128 := nat_join 7 128 (m % 128) (by decide) (by omega)
    by_cases h : m % 256 < 128
    · rw [show m % 256 = m % 128 by omega, Nat.or_comm, h1, Nat.add_comm]
    · rw [show m % 256 = 128 + m % 128 by omega, ← h1, Nat.or_comm, ← Nat.or_assoc, Nat.or_self, h1, Nat.add_comm]
  rw [key]

theorem s_VarText (n : Int) (hn : -9223372036854775808 ≤ n ∧ n ≤ 9223372036854775807) (w : World) : Calls Try.prog 20 #[.int .i64 n] w fun e w' => e = .returned (.string ⟨(varText n).toArray⟩) ∧ Below w.heap.size w w' := by
  by_cases h0 : n < 0
  · rw [show varText n = [] from if_pos h0]
    have h1 : ¬ 127 < n := by omega
    go_enter Try.func20, Try.ntmps20
    go_wp2
    go_rounds 1
    go_ret
    exact ⟨rfl, by go_grown⟩
  · obtain ⟨l, hl⟩ : ∃ l, l = varText n := ⟨_, rfl⟩
    rw [← hl]
    have HL : Hid ([] ++ Enc.varF 9 n.toNat = l) := by rw [hl]; exact (if_neg h0).symm
    clear hl
    obtain ⟨n, rfl⟩ : ∃ m : Nat, n = (m : Int) := ⟨n.toNat, by omega⟩
    have hp := pow_9 (n := n) (by omega)
    rw [Int.toNat_natCast] at HL
    have HP := Lib.hid hp
    clear hp
    go_enter Try.func20, Try.ntmps20
    go_wp2
    go_loopw [0, 3] (fun x v wr => ∃ (m f : Nat) (acc : List UInt8), x = .int .i64 m ∧ m ≤ 9223372036854775807 ∧ acc.length + f = 9 ∧ OwnB wr w.heap.size v acc ∧ Hid (acc ++ Enc.varF f m = l) ∧ Hid (m < 128 ^ (f + 1)) ∧ Below w.heap.size w wr) (fun x _ _ => (intOf x).toNat)
    case atStart => exact ⟨n, 9, [], rfl, by omega, rfl, OwnB.made w _ 0 #[] (Nat.le_refl _) (by decide) rfl, HL, HP, by go_grown⟩
    case round =>
      obtain ⟨m, f, acc, rfl, hm, hlen, hown, HK, HF, hbel⟩ := hrel
      have hsz := hbel.size
      by_cases hlt : 128 ≤ m
      · obtain ⟨g, rfl, HK', hF'⟩ := var_round HK hlt HF.out
        have HF' := Lib.hid hF'
        clear hF' HK HF
        have hlt' : (127 : Int) < (m : Int) := by omega
        go_wp2_with (at_builtin; refine wpList_push rfl hown (UInt8.ofNat (m % 128 + 128)) _ _ rfl _ rfl rfl (by have := ofNat_toInt (x := m % 128 + 128) (by omega); omega) (by omega) hsz ?_; intro v1 w1 hown1 hb1)
        have hbel1 := hbel.trans hb1
        clear hown hb1 hbel
        go_roundw
        case rel => exact ⟨m / 128, g, _, by go_num, by omega, by simp; omega, hown1, HK', HF', hbel1⟩
        case measure => simp [intOf]; omega
      · have hE := Lib.hid (var_last HK (by omega))
        clear HK HF
        have hlt' : ¬ (127 : Int) < (m : Int) := by omega
        go_wp2_with (at_builtin; refine wpList_push rfl hown (UInt8.ofNat m) _ _ rfl _ rfl rfl (by have := ofNat_toInt (x := m) (by omega); omega) (by omega) hsz ?_; intro v1 w1 hown1 hb1; have hcv := hown1.conv)
        go_ret
        exact ⟨ret_str hE.out, hbel.trans hb1⟩

theorem i_VarText (n : Int) (hn : -9223372036854775808 ≤ n ∧ n ≤ 9223372036854775807) (w : World) : Calls Try.prog 21 #[.int .i64 n] w fun e w' => e = .returned (.string ⟨(varText n).toArray⟩) ∧ Below w.heap.size w w' := by
  by_cases h0 : n < 0
  · rw [show varText n = [] from if_pos h0]
    go_enter Try.func21, Try.ntmps21
    go_wp2
    go_ret
    exact ⟨rfl, by go_grown⟩
  · obtain ⟨l, hl⟩ : ∃ l, l = varText n := ⟨_, rfl⟩
    rw [← hl]
    have HL : Hid ([] ++ Enc.varF 9 n.toNat = l) := by rw [hl]; exact (if_neg h0).symm
    clear hl
    obtain ⟨n, rfl⟩ : ∃ m : Nat, n = (m : Int) := ⟨n.toNat, by omega⟩
    have hp := pow_9 (n := n) (by omega)
    rw [Int.toNat_natCast] at HL
    have HP := Lib.hid hp
    clear hp
    go_enter Try.func21, Try.ntmps21
    go_wp2
    go_loopw [0, 3] (fun x v wr => ∃ (m f : Nat) (acc : List UInt8), x = .int .i64 m ∧ m ≤ 9223372036854775807 ∧ acc.length + f = 9 ∧ OwnB wr w.heap.size v acc ∧ Hid (acc ++ Enc.varF f m = l) ∧ Hid (m < 128 ^ (f + 1)) ∧ Below w.heap.size w wr) (fun x _ _ => (intOf x).toNat)
    case atStart => exact ⟨n, 9, [], rfl, by omega, rfl, OwnB.made w _ 0 #[] (Nat.le_refl _) (by decide) rfl, HL, HP, by go_grown⟩
    case round =>
      obtain ⟨m, f, acc, rfl, hm, hlen, hown, HK, HF, hbel⟩ := hrel
      have hsz := hbel.size
      by_cases hlt : 128 ≤ m
      · obtain ⟨g, rfl, HK', hF'⟩ := var_round HK hlt HF.out
        have HF' := Lib.hid hF'
        clear hF' HK HF
        have hlt' : (128 : Int) ≤ (m : Int) := by omega
        go_wp2_with (at_builtin; refine wpList_push rfl hown (UInt8.ofNat (m % 128 + 128)) _ _ rfl _ rfl rfl (or_128 m) (by omega) hsz ?_; intro v1 w1 hown1 hb1)
        have hbel1 := hbel.trans hb1
        clear hown hb1 hbel
        go_roundw
        case rel => exact ⟨m / 128, g, _, by go_num, by omega, by simp; omega, hown1, HK', HF', hbel1⟩
        case measure => simp [intOf]; omega
      · have hE := Lib.hid (var_last HK (by omega))
        clear HK HF
        have hlt' : ¬ (128 : Int) ≤ (m : Int) := by omega
        go_wp2_with (at_builtin; refine wpList_push rfl hown (UInt8.ofNat m) _ _ rfl _ rfl rfl (by have := ofNat_toInt (x := m) (by omega); omega) (by omega) hsz ?_; intro v1 w1 hown1 hb1; have hcv := hown1.conv)
        go_ret
        exact ⟨ret_str hE.out, hbel.trans hb1⟩
end Go.Proofs.Ytephpdpfaloamaa
