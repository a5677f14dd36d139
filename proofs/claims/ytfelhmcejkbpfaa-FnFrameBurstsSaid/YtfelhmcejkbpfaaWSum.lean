/-
  SumMore, SumOf (both sides): the register by bytes and bits; their laws. No conditions.
-/
import Derived.Test.YtfelhmcejkbpfaaCrc
import Derived.Test.YtfelhmcejkbpfaaWInt
import Derived.Test.YtfelhmcejkbpfaaBits
import Derived.Handy
namespace Go.Proofs.Ytfelhmcejkbpfaa
open Go.ChangeShapes Go.WideShapes Go.ChangeAt Go.RowKit

def smV (sum : Int) (l : List UInt8) : Int := if 0 ≤ sum ∧ sum ≤ 4294967295 then (Crc.more sum.toNat l : Nat) else 0
theorem sm_cons (s : ByteArray) (k : Nat) (h : k < s.size) : s.data.toList.drop k = s[k] :: s.data.toList.drop (k + 1) := by
  rw [List.drop_eq_getElem_cons (by simpa using h)]; rfl
theorem sm_step {s : ByteArray} {k N R : Nat} (h : k < s.size) (hr : Hid (Crc.more N (s.data.toList.drop k) = R)) : Hid (Crc.more (Crc.steps 8 (N ^^^ s[k].toNat)) (s.data.toList.drop (k + 1)) = R) := by
  have hr := hr.out
  rw [sm_cons s k h] at hr
  exact hr
theorem sm_end {s : ByteArray} {k N R : Nat} (h : s.size ≤ k) (hr : Hid (Crc.more N (s.data.toList.drop k) = R)) : N = R := by
  have hr := hr.out
  rw [List.drop_eq_nil_of_le (by simpa using h)] at hr
  exact hr
theorem st_odd {N : Nat} (h : N % 2 = 1) : Crc.step N = N / 2 ^^^ 3988292384 := by unfold Crc.step Crc.poly; rw [if_pos h]
theorem st_even {N : Nat} (h : ¬ N % 2 = 1) : Crc.step N = N / 2 := by unfold Crc.step; rw [if_neg h, Nat.xor_zero]
theorem ret_i {a b : Int} (h : a = b) : Ending.returned (.int .i64 a) = .returned (.int .i64 b) := by rw [h]


theorem s_SumMore (sum : Int) (s : ByteArray) (hs : s.size ≤ 2147483648) (w : World) : Calls Try.prog 19 #[.int .i64 sum, .string s] w fun e w' => e = .returned (.int .i64 (smV sum s.data.toList)) ∧ w = w' := by
  by_cases h : 0 ≤ sum ∧ sum ≤ 4294967295
  · obtain ⟨n, rfl⟩ : ∃ m : Nat, sum = (m : Int) := ⟨sum.toNat, by omega⟩
    have HI : Hid (inB (n : Int) 0 4294967295 = true) := inB_t h
    obtain ⟨R, hR⟩ : ∃ R, Crc.more n s.data.toList = R := ⟨_, rfl⟩
    have HR : Hid (smV (n : Int) s.data.toList = (R : Int)) := by unfold Hid smV; rw [if_pos h, Int.toNat_natCast, hR]
    have HK0 : Hid (Crc.more n (s.data.toList.drop 0) = R) := by rw [List.drop_zero]; exact hR
    have hn : n ≤ 4294967295 := by omega
    clear hR h
    go_enter Try.func19, Try.ntmps19
    go_wp2_with (go_at_call 47; refine (s_l01In _ _ _ _).mono ?_; rintro e w' ⟨rfl, rfl⟩; rw [HI.out])
    go_loop [0, 5] (fun x i => ∃ k N : Nat, k ≤ s.size ∧ i = .int .i64 (k : Int) ∧ x = .int .i64 (N : Int) ∧ N ≤ 4294967295 ∧ Hid (Crc.more N (s.data.toList.drop k) = R)) (fun _ i => s.size - (intOf i).toNat)
    case atStart => exact ⟨0, n, by omega, rfl, rfl, hn, HK0⟩
    case round =>
      obtain ⟨k, N, hk, rfl, rfl, hN, HK⟩ := hrel
      by_cases hlt : k < s.size
      · have HK' := sm_step hlt HK
        obtain ⟨X, hX⟩ : ∃ X, N ^^^ s[k].toNat = X := ⟨_, rfl⟩
        obtain ⟨x, hx⟩ : ∃ x : Int, (s[k].toNat : Int) = x := ⟨_, rfl⟩
        have hc : s[k].toNat < 256 := s[k].toNat_lt
        have hXl : X < 2 ^ 32 := by rw [← hX]; exact Nat.xor_lt_two_pow (by omega) (by omega)
        have hv : bits .xor .i64 (N : Int) x = (X : Int) := by rw [← hx, xor_i64 _ _ (by omega) (by omega), hX]
        rw [hX] at HK'
        have hx0 : 0 ≤ x := by omega
        have hx1 : x ≤ 255 := by omega
        have hX2 : X ≤ 4294967295 := by omega
        clear hX hXl hc HK
        go_wp2_with fail
        go_loop [0, 6] (fun y j => ∃ q M : Nat, q ≤ 8 ∧ j = .int .i64 (q : Int) ∧ y = .int .i64 (M : Int) ∧ M ≤ 4294967295 ∧ Hid (M = Crc.steps q X)) (fun _ j => 8 - (intOf j).toNat)
        case atStart => exact ⟨0, X, by omega, rfl, rfl, hX2, rfl⟩
        case round =>
          obtain ⟨q, M, hq, rfl, rfl, hM, HM⟩ := hrel
          by_cases hq8 : (q : Int) < 8
          · by_cases ho : M % 2 = 1
            · obtain ⟨Z, hZ⟩ : ∃ Z, M / 2 ^^^ 3988292384 = Z := ⟨_, rfl⟩
              have hz : bits .xor .i64 ((M : Int) / 2) 3988292384 = (Z : Int) := by
                rw [show ((M : Int) / 2) = ((M / 2 : Nat) : Int) from rfl, show (3988292384 : Int) = ((3988292384 : Nat) : Int) from rfl, xor_i64 _ _ (by omega) (by omega), hZ]
              have hZl : Z < 2 ^ 32 := by rw [← hZ]; exact Nat.xor_lt_two_pow (by omega) (by omega)
              have hZ2 : Z ≤ 4294967295 := by omega
              have HZ : Hid (Z = Crc.steps (q + 1) X) := by
                show Z = Crc.step (Crc.steps q X)
                rw [← HM.out, st_odd ho, hZ]
              have ht : ((M : Int) % 2 == 1) = true := beq_iff_eq.2 (by omega)
              clear hZ hZl ho HM
              go_wp2_with fail
              go_round
              case rel => exact ⟨q + 1, Z, by omega, by go_num, rfl, hZ2, HZ⟩
              case measure => simp [intOf]; omega
            · have HZ : Hid (M / 2 = Crc.steps (q + 1) X) := by
                show M / 2 = Crc.step (Crc.steps q X)
                rw [← HM.out, st_even ho]
              have ht : ((M : Int) % 2 == 1) = false := beq_eq_false_iff_ne.2 (by omega)
              clear ho HM
              go_wp2_with fail
              go_round
              case rel => exact ⟨q + 1, M / 2, by omega, by go_num, by go_num, by omega, HZ⟩
              case measure => simp [intOf]; omega
          · have HE : Hid (Crc.more M (s.data.toList.drop (k + 1)) = R) := by
              have h8 : q = 8 := by omega
              have := HM.out
              rw [h8] at this
              rw [this]
              exact HK'
            clear HM HK'
            go_wp2_with fail
            go_round
            case rel => exact ⟨k + 1, M, by omega, by go_num, rfl, hM, HE⟩
            case measure => simp [intOf]; omega
      · have HE : Hid (smV (n : Int) s.data.toList = (N : Int)) := by rw [sm_end (by omega) HK]; exact HR
        clear HK HR
        go_wp2_with fail
        go_ret
        exact ⟨ret_i HE.out.symm, rfl⟩
  · have HR : Hid (smV sum s.data.toList = 0) := if_neg h
    have HI : Hid (inB sum 0 4294967295 = false) := inB_f h
    clear h
    go_enter Try.func19, Try.ntmps19
    go_wp2_with (go_at_call 47; refine (s_l01In _ _ _ _).mono ?_; rintro e w' ⟨rfl, rfl⟩; rw [HI.out])
    go_ret
    exact ⟨ret_i HR.out.symm, rfl⟩


theorem i_SumMore (sum : Int) (s : ByteArray) (hs : s.size ≤ 2147483648) (w : World) : Calls Try.prog 20 #[.int .i64 sum, .string s] w fun e w' => e = .returned (.int .i64 (smV sum s.data.toList)) ∧ w = w' := by
  by_cases h : 0 ≤ sum ∧ sum ≤ 4294967295
  · obtain ⟨n, rfl⟩ : ∃ m : Nat, sum = (m : Int) := ⟨sum.toNat, by omega⟩
    have HI : Hid (inB (n : Int) 0 4294967295 = true) := inB_t h
    obtain ⟨R, hR⟩ : ∃ R, Crc.more n s.data.toList = R := ⟨_, rfl⟩
    have HR : Hid (smV (n : Int) s.data.toList = (R : Int)) := by unfold Hid smV; rw [if_pos h, Int.toNat_natCast, hR]
    have HK0 : Hid (Crc.more n (s.data.toList.drop 0) = R) := by rw [List.drop_zero]; exact hR
    have hn : n ≤ 4294967295 := by omega
    clear hR h
    go_enter Try.func20, Try.ntmps20
    go_wp2_with (go_at_call 48; refine (i_within _ _ _ _).mono ?_; rintro e w' ⟨rfl, rfl⟩; rw [HI.out])
    go_loop [0, 12] (fun x i => ∃ k N : Nat, k ≤ s.size ∧ i = .int .i64 (k : Int) ∧ x = .int .i64 (N : Int) ∧ N ≤ 4294967295 ∧ Hid (Crc.more N (s.data.toList.drop k) = R)) (fun _ i => s.size - (intOf i).toNat)
    case atStart => exact ⟨0, n, by omega, rfl, rfl, hn, HK0⟩
    case round =>
      obtain ⟨k, N, hk, rfl, rfl, hN, HK⟩ := hrel
      by_cases hlt : k < s.size
      · have HK' := sm_step hlt HK
        obtain ⟨X, hX⟩ : ∃ X, N ^^^ s[k].toNat = X := ⟨_, rfl⟩
        obtain ⟨x, hx⟩ : ∃ x : Int, (s[k].toNat : Int) = x := ⟨_, rfl⟩
        have hc : s[k].toNat < 256 := s[k].toNat_lt
        have hXl : X < 2 ^ 32 := by rw [← hX]; exact Nat.xor_lt_two_pow (by omega) (by omega)
        have hv : bits .xor .i64 (N : Int) x = (X : Int) := by rw [← hx, xor_i64 _ _ (by omega) (by omega), hX]
        rw [hX] at HK'
        have hx0 : 0 ≤ x := by omega
        have hx1 : x ≤ 255 := by omega
        have hX2 : X ≤ 4294967295 := by omega
        clear hX hXl hc HK
        go_wp2_with fail
        go_loop [0, 21] (fun y j => ∃ q M : Nat, q ≤ 8 ∧ j = .int .i64 (q : Int) ∧ y = .int .i64 (M : Int) ∧ M ≤ 4294967295 ∧ Hid (M = Crc.steps q X)) (fun _ j => 8 - (intOf j).toNat)
        case atStart => exact ⟨0, X, by omega, rfl, rfl, hX2, rfl⟩
        case round =>
          obtain ⟨q, M, hq, rfl, rfl, hM, HM⟩ := hrel
          by_cases hq8 : (q : Int) < 8
          · by_cases ho : M % 2 = 1
            · obtain ⟨Z, hZ⟩ : ∃ Z, M / 2 ^^^ 3988292384 = Z := ⟨_, rfl⟩
              have hz : bits .xor .i64 ((M : Int) / 2) 3988292384 = (Z : Int) := by
                rw [show ((M : Int) / 2) = ((M / 2 : Nat) : Int) from rfl, show (3988292384 : Int) = ((3988292384 : Nat) : Int) from rfl, xor_i64 _ _ (by omega) (by omega), hZ]
              have hZl : Z < 2 ^ 32 := by rw [← hZ]; exact Nat.xor_lt_two_pow (by omega) (by omega)
              have hZ2 : Z ≤ 4294967295 := by omega
              have HZ : Hid (Z = Crc.steps (q + 1) X) := by
                show Z = Crc.step (Crc.steps q X)
                rw [← HM.out, st_odd ho, hZ]
              have ha : bits .and .i64 (M : Int) 1 = 1 := by rw [and_1 M (by omega)]; omega
              clear hZ hZl ho HM
              go_wp2_with fail
              go_round
              case rel => exact ⟨q + 1, Z, by omega, by go_num, rfl, hZ2, HZ⟩
              case measure => simp [intOf]; omega
            · have HZ : Hid (M / 2 = Crc.steps (q + 1) X) := by
                show M / 2 = Crc.step (Crc.steps q X)
                rw [← HM.out, st_even ho]
              have ha : bits .and .i64 (M : Int) 1 = 0 := by rw [and_1 M (by omega)]; omega
              clear ho HM
              go_wp2_with fail
              go_round
              case rel => exact ⟨q + 1, M / 2, by omega, by go_num, by go_num, by omega, HZ⟩
              case measure => simp [intOf]; omega
          · have HE : Hid (Crc.more M (s.data.toList.drop (k + 1)) = R) := by
              have h8 : q = 8 := by omega
              have := HM.out
              rw [h8] at this
              rw [this]
              exact HK'
            clear HM HK'
            go_wp2_with fail
            go_round
            case rel => exact ⟨k + 1, M, by omega, by go_num, rfl, hM, HE⟩
            case measure => simp [intOf]; omega
      · have HE : Hid (smV (n : Int) s.data.toList = (N : Int)) := by rw [sm_end (by omega) HK]; exact HR
        clear HK HR
        go_wp2_with fail
        go_ret
        exact ⟨ret_i HE.out.symm, rfl⟩
  · have HR : Hid (smV sum s.data.toList = 0) := if_neg h
    have HI : Hid (inB sum 0 4294967295 = false) := inB_f h
    clear h
    go_enter Try.func20, Try.ntmps20
    go_wp2_with (go_at_call 48; refine (i_within _ _ _ _).mono ?_; rintro e w' ⟨rfl, rfl⟩; rw [HI.out])
    go_ret
    exact ⟨ret_i HR.out.symm, rfl⟩

end Go.Proofs.Ytfelhmcejkbpfaa
