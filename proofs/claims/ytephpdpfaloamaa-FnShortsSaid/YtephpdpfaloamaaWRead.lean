/-
  ReadVar (both sides). No conditions but the bound on the text.
-/
import Derived.Test.YtephpdpfaloamaaBytes
import Derived.Test.YtephpdpfaloamaaEnc
import Derived.Test.YtephpdpfaloamaaWInt
import Derived.Test.YtephpdpfaloamaaBits
namespace Go.Proofs.Ytephpdpfaloamaa
open Go.RowKit

theorem drop_cons (s : ByteArray) (k : Nat) (h : k < s.size) : s.data.toList.drop k = s[k] :: s.data.toList.drop (k + 1) := by
  rw [List.drop_eq_getElem_cons (by simpa using h)]; rfl
theorem byte_bd (c : UInt8) : (0 : Int) ≤ (c.toNat : Int) ∧ (c.toNat : Int) ≤ 255 := by
  have : c.toNat < 256 := c.toNat_lt
  omega
def rv (s : ByteArray) (at_ : Int) : Int × Int :=
  if 0 ≤ at_ ∧ at_ < s.size then
    match Enc.rd 9 0 0 (s.data.toList.drop at_.toNat) with
    | some (n, k) => ((n : Int), at_ + k)
    | none => (0, -1)
  else (0, -1)
theorem rv_none {s : ByteArray} {p : Nat} (h : Enc.rd 9 0 0 (s.data.toList.drop p) = none) : rv s p = (0, -1) := by
  unfold rv
  rw [Int.toNat_natCast, h]
  split <;> rfl
theorem rv_some {s : ByteArray} {p n k : Nat} (hp : p < s.size) (h : Enc.rd 9 0 0 (s.data.toList.drop p) = some (n, k)) : rv s p = ((n : Int), ((p + k : Nat) : Int)) := by
  unfold rv
  rw [Int.toNat_natCast, h, if_pos ⟨by omega, by omega⟩]
  rfl
theorem rv_out {s : ByteArray} {a : Int} (h : ¬ (0 ≤ a ∧ a < s.size)) : rv s a = (0, -1) := if_neg h
theorem ret_two {a b : Int} {r : Int × Int} (h : r = (a, b)) : Ending.returned (.tuple #[.int .i64 a, .int .i64 b]) = .returned (.tuple #[.int .i64 r.1, .int .i64 r.2]) := by rw [h]

/-- One round, from the state of the reader. -/
theorem rd_no {s : ByteArray} {p k N : Nat} {R : Option (Nat × Nat)} (hk : k < 9) (hin : p + k < s.size) (h : Hid (Enc.rd (9 - k) k N (s.data.toList.drop (p + k)) = R)) (hc : s[p + k].toNat = 0) (h0 : 0 < k) : R = none := by
  rw [← h.out, drop_cons s _ hin, show 9 - k = (8 - k) + 1 by omega]
  simp [Enc.rd, hc, h0]
theorem rd_yes {s : ByteArray} {p k N : Nat} {R : Option (Nat × Nat)} (hk : k < 9) (hin : p + k < s.size) (h : Hid (Enc.rd (9 - k) k N (s.data.toList.drop (p + k)) = R)) (hc : s[p + k].toNat < 128) (h0 : ¬ (s[p + k].toNat = 0 ∧ 0 < k)) : R = some (N + s[p + k].toNat % 128 * 128 ^ k, k + 1) := by
  rw [← h.out, drop_cons s _ hin, show 9 - k = (8 - k) + 1 by omega]
  unfold Enc.rd
  rw [if_pos hc, if_neg h0, Nat.mod_eq_of_lt hc]
theorem rd_on {s : ByteArray} {p k N : Nat} {R : Option (Nat × Nat)} (hk : k < 9) (hin : p + k < s.size) (h : Hid (Enc.rd (9 - k) k N (s.data.toList.drop (p + k)) = R)) (hc : ¬ s[p + k].toNat < 128) : Hid (Enc.rd (9 - (k + 1)) (k + 1) (N + s[p + k].toNat % 128 * 128 ^ k) (s.data.toList.drop (p + (k + 1))) = R) := by
  have h := h.out
  rw [drop_cons s _ hin, show 9 - k = (8 - k) + 1 by omega] at h
  unfold Enc.rd at h
  rw [if_neg hc] at h
  rw [show 9 - (k + 1) = 8 - k by omega, ← Nat.add_assoc]
  exact h
theorem rd_end {s : ByteArray} {p k N : Nat} {R : Option (Nat × Nat)} (hk : k ≤ 9) (he : ¬ (k < 9 ∧ p + k < s.size)) (h : Hid (Enc.rd (9 - k) k N (s.data.toList.drop (p + k)) = R)) : R = none := by
  rw [← h.out]
  by_cases h9 : k = 9
  · subst h9; rfl
  · rw [List.drop_eq_nil_of_le (by simp; omega), show 9 - k = (8 - k) + 1 by omega]; rfl

theorem s_ReadVar_in (s : ByteArray) (p : Nat) (hs : s.size ≤ 2147483648) (hp : p < s.size) (w : World) : Calls Try.prog 30 #[.string s, .int .i64 (p : Int)] w fun e w' => e = .returned (.tuple #[.int .i64 (rv s p).1, .int .i64 (rv s p).2]) ∧ w = w' := by
  have HI : Hid (inB p 0 ((s.size : Int) - 1) = true) := inB_t ⟨by omega, by omega⟩
  go_enter Try.func30, Try.ntmps30
  go_wp2_with (go_at_call 39; refine (s_l01In _ _ _ _).mono ?_; rintro e w' ⟨rfl, rfl⟩; rw [HI.out])
  go_loop [6, 7] (fun n i => ∃ k N : Nat, k ≤ 9 ∧ p + k ≤ s.size ∧ i = .int .i64 k ∧ n = .int .i64 N ∧ Hid (N < 128 ^ k) ∧ N ≤ 9223372036854775807 ∧ Hid (Enc.rd (9 - k) k N (s.data.toList.drop (p + k)) = Enc.rd 9 0 0 (s.data.toList.drop p))) (fun _ i => 9 - (intOf i).toNat)
  case atStart => exact ⟨0, 0, by omega, by omega, rfl, rfl, by unfold Hid; decide, by omega, rfl⟩
  case round =>
    obtain ⟨k, N, hk, hpk, rfl, rfl, HN, hN, HK⟩ := hrel
    by_cases hlt : k < 9
    · by_cases hin : p + k < s.size
      · have hb := byte_bd s[p + k]
        obtain ⟨M, hM⟩ : ∃ M, M = N + s[p + k].toNat % 128 * 128 ^ k := ⟨_, rfl⟩
        obtain ⟨x, hx⟩ : ∃ x : Int, (s[p + k].toNat : Int) = x := ⟨_, rfl⟩
        have hv : wrap64 ((N : Int) + wrap64 (x % 128 * 2 ^ (7 * k))) = (M : Int) := by rw [hM, ← hx]; exact sh_add HN.out hlt
        rw [hx] at hb
        obtain ⟨hx0, hx1⟩ := hb
        have hg := grp_lt (c := s[p + k].toNat) HN.out
        have hg2 := pow128_le (k := k + 1) (by omega)
        rw [← hM] at hg
        have HG := Lib.hid hg
        have hM1 : M ≤ 9223372036854775807 := by omega
        clear hg hg2
        have h0pk : (0 : Int) ≤ (p : Int) + (k : Int) := by omega
        have hin' : (p : Int) + (k : Int) < (s.size : Int) := by omega
        by_cases hc : x < 128
        · by_cases hz : x = 0
          · have hz' : (x == 0) = true := beq_iff_eq.2 hz
            by_cases h0 : 0 < k
            · have HR := Lib.hid (rv_none (rd_no hlt hin HK (by omega) h0))
              clear hz HK hM
              go_wp2_with fail
              go_ret2
              exact ⟨ret_two HR.out, rfl⟩
            · have HR := Lib.hid (rv_some hp (rd_yes hlt hin HK (by omega) (by omega)))
              rw [← hM] at HR
              clear hz HK hM
              go_wp2_with fail
              go_ret2
              exact ⟨ret_two (HR.out.trans (by first | rfl | (congr 1; omega))), rfl⟩
          · have hz' : (x == 0) = false := beq_eq_false_iff_ne.2 hz
            have HR := Lib.hid (rv_some hp (rd_yes hlt hin HK (by omega) (by omega)))
            rw [← hM] at HR
            clear hz HK hM
            by_cases h0 : 0 < k
            all_goals
              go_wp2_with fail
              go_ret2
              exact ⟨ret_two (HR.out.trans (by first | rfl | (congr 1; omega))), rfl⟩
        · have HR := rd_on hlt hin HK (by omega)
          rw [← hM] at HR
          clear HK hM
          go_wp2_with fail
          go_round
          case rel => exact ⟨k + 1, M, by omega, by omega, by go_num, by first | rfl | rw [hv], HG, hM1, HR⟩
          case measure => simp [intOf]; omega
      · have HR := Lib.hid (rv_none (rd_end hk (by omega) HK))
        have hin' : ¬ (p : Int) + (k : Int) < (s.size : Int) := by omega
        clear HK
        go_wp2_with fail
        go_ret2
        exact ⟨ret_two HR.out, rfl⟩
    · have HR := Lib.hid (rv_none (rd_end hk (by omega) HK))
      clear HK
      go_wp2_with fail
      go_ret2
      exact ⟨ret_two HR.out, rfl⟩

theorem s_ReadVar (s : ByteArray) (a : Int) (hs : s.size ≤ 2147483648) (w : World) : Calls Try.prog 30 #[.string s, .int .i64 a] w fun e w' => e = .returned (.tuple #[.int .i64 (rv s a).1, .int .i64 (rv s a).2]) ∧ w = w' := by
  by_cases h : 0 ≤ a ∧ a < s.size
  · obtain ⟨p, rfl⟩ : ∃ p : Nat, a = p := ⟨a.toNat, by omega⟩
    exact s_ReadVar_in s p hs (by omega) w
  · have HR := Lib.hid (rv_out h)
    have HI : Hid (inB a 0 ((s.size : Int) - 1) = false) := inB_f (by omega)
    clear h
    go_enter Try.func30, Try.ntmps30
    go_wp2_with (go_at_call 39; refine (s_l01In _ _ _ _).mono ?_; rintro e w' ⟨rfl, rfl⟩; rw [HI.out])
    go_ret2
    exact ⟨ret_two HR.out, rfl⟩

theorem i_ReadVar_in (s : ByteArray) (p : Nat) (hs : s.size ≤ 2147483648) (hp : p < s.size) (w : World) : Calls Try.prog 31 #[.string s, .int .i64 (p : Int)] w fun e w' => e = .returned (.tuple #[.int .i64 (rv s p).1, .int .i64 (rv s p).2]) ∧ w = w' := by
  go_enter Try.func31, Try.ntmps31
  go_wp2_with fail
  go_loop [1, 6, 7] (fun a n i => ∃ k N : Nat, k ≤ 9 ∧ p + k ≤ s.size ∧ a = .int .i64 ((p + k : Nat) : Int) ∧ i = .int .i64 k ∧ n = .int .i64 N ∧ Hid (N < 128 ^ k) ∧ N ≤ 9223372036854775807 ∧ Hid (Enc.rd (9 - k) k N (s.data.toList.drop (p + k)) = Enc.rd 9 0 0 (s.data.toList.drop p))) (fun _ _ i => 9 - (intOf i).toNat)
  case atStart => exact ⟨0, 0, by omega, by omega, rfl, rfl, rfl, by unfold Hid; decide, by omega, rfl⟩
  case round =>
    obtain ⟨k, N, hk, hpk, rfl, rfl, rfl, HN, hN, HK⟩ := hrel
    by_cases hlt : k < 9
    · by_cases hin : p + k < s.size
      · have hb := byte_bd s[p + k]
        obtain ⟨M, hM⟩ : ∃ M, M = N + s[p + k].toNat % 128 * 128 ^ k := ⟨_, rfl⟩
        obtain ⟨x, hx⟩ : ∃ x : Int, (s[p + k].toNat : Int) = x := ⟨_, rfl⟩
        have hv : bits .or .i64 (N : Int) (wrap64 (bits .and .i64 x 127 * 2 ^ (7 * k))) = (M : Int) := by rw [hM, ← hx]; exact sh_or HN.out hlt (s[p + k].toNat_lt)
        rw [hx] at hb
        obtain ⟨hx0, hx1⟩ := hb
        have hg := grp_lt (c := s[p + k].toNat) HN.out
        have hg2 := pow128_le (k := k + 1) (by omega)
        rw [← hM] at hg
        have HG := Lib.hid hg
        have hM1 : M ≤ 9223372036854775807 := by omega
        clear hg hg2
        have h0pk : (0 : Int) ≤ (p : Int) + (k : Int) := by omega
        have hin' : (p : Int) + (k : Int) < (s.size : Int) := by omega
        by_cases hc : x < 128
        · by_cases hz : x = 0
          · have hz' : (x == 0) = true := beq_iff_eq.2 hz
            by_cases h0 : 0 < k
            · have HR := Lib.hid (rv_none (rd_no hlt hin HK (by omega) h0))
              clear hz HK hM
              go_wp2_with fail
              go_ret2
              exact ⟨ret_two HR.out, rfl⟩
            · have HR := Lib.hid (rv_some hp (rd_yes hlt hin HK (by omega) (by omega)))
              rw [← hM] at HR
              clear hz HK hM
              go_wp2_with fail
              go_ret2
              exact ⟨ret_two (HR.out.trans (by first | rfl | (congr 1; omega))), rfl⟩
          · have hz' : (x == 0) = false := beq_eq_false_iff_ne.2 hz
            have HR := Lib.hid (rv_some hp (rd_yes hlt hin HK (by omega) (by omega)))
            rw [← hM] at HR
            clear hz HK hM
            by_cases h0 : 0 < k
            all_goals
              go_wp2_with fail
              go_ret2
              exact ⟨ret_two (HR.out.trans (by first | rfl | (congr 1; omega))), rfl⟩
        · have HR := rd_on hlt hin HK (by omega)
          rw [← hM] at HR
          clear HK hM
          go_wp2_with fail
          go_round
          case rel => exact ⟨k + 1, M, by omega, by omega, by go_num, by go_num, by first | rfl | rw [hv], HG, hM1, HR⟩
          case measure => simp [intOf]; omega
      · have HR := Lib.hid (rv_none (rd_end hk (by omega) HK))
        have hin' : ¬ (p : Int) + (k : Int) < (s.size : Int) := by omega
        clear HK
        go_wp2_with fail
        go_ret2
        exact ⟨ret_two HR.out, rfl⟩
    · have HR := Lib.hid (rv_none (rd_end hk (by omega) HK))
      clear HK
      go_wp2_with fail
      go_ret2
      exact ⟨ret_two HR.out, rfl⟩

theorem i_ReadVar (s : ByteArray) (a : Int) (hs : s.size ≤ 2147483648) (w : World) : Calls Try.prog 31 #[.string s, .int .i64 a] w fun e w' => e = .returned (.tuple #[.int .i64 (rv s a).1, .int .i64 (rv s a).2]) ∧ w = w' := by
  by_cases h : 0 ≤ a ∧ a < s.size
  · obtain ⟨p, rfl⟩ : ∃ p : Nat, a = p := ⟨a.toNat, by omega⟩
    exact i_ReadVar_in s p hs (by omega) w
  · have HR := Lib.hid (rv_out h)
    by_cases h0 : a < 0
    · go_enter Try.func31, Try.ntmps31
      go_wp2_with fail
      go_ret2
      exact ⟨ret_two HR.out, rfl⟩
    · have h1 : ¬ a < (s.size : Int) := by omega
      clear h
      go_enter Try.func31, Try.ntmps31
      go_wp2_with fail
      go_rounds 1
      go_ret2
      exact ⟨ret_two HR.out, rfl⟩
end Go.Proofs.Ytephpdpfaloamaa
