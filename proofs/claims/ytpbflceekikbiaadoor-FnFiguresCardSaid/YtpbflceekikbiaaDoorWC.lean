/-
  PowInt (both sides): the power by rounds of checked products; its law. No conditions.
-/
import Derived.Test.YtpbflceekikbiaaDoorWInt
import Derived.Handy
namespace Go.Proofs.YtpbflceekikbiaaDoor
open Go.ChangeShapes Go.WideShapes Go.ChangeAt Go.RowKit

def powF : Nat → Int → Int → Int × Bool
  | 0, x, _ => (x, true)
  | k + 1, x, b => if mulB x b = true then powF k (mulV x b) b else (0, false)
def powR (b n : Int) : Int × Bool := if 0 ≤ b ∧ 0 ≤ n ∧ n ≤ 100 then powF n.toNat 1 b else (0, false)
theorem mulV_bd {a b : Int} (h : mulB a b = true) : 0 ≤ mulV a b ∧ mulV a b ≤ 9223372036854775807 := by
  have h' : 0 ≤ a ∧ 0 ≤ b ∧ a * b ≤ 9223372036854775807 := of_decide_eq_true h
  rw [(mul_t h').2]
  exact ⟨Int.mul_nonneg h'.1 h'.2.1, h'.2.2⟩
theorem powF_no {k : Nat} {x b : Int} (h : mulB x b = false) : powF (k + 1) x b = (0, false) := by simp [powF, h]
theorem powF_yes {k : Nat} {x b : Int} (h : mulB x b = true) : powF (k + 1) x b = powF k (mulV x b) b := by simp [powF, h]
theorem ret_pair {a c : Int} {b d : Bool} (h : (a, b) = (c, d)) : Ending.returned (.tuple #[.int .i64 a, .bool b]) = .returned (.tuple #[.int .i64 c, .bool d]) := by
  cases h; rfl




theorem i_PowInt (b n : Int) (hb : -9223372036854775808 ≤ b ∧ b ≤ 9223372036854775807) (w : World) : Calls Tryd.prog 27 #[.int .i64 b, .int .i64 n] w fun e w' => e = .returned (.tuple #[.int .i64 (powR b n).1, .bool (powR b n).2]) ∧ w = w' := by
  by_cases h1 : b < 0
  · rw [show powR b n = (0, false) from if_neg (by omega)]; go_enter Tryd.func27, Tryd.ntmps27; go_wp2; go_ret2; exact ⟨rfl, rfl⟩
  · by_cases h2 : 0 ≤ n ∧ n ≤ 100
    · obtain ⟨h2, h3⟩ := h2
      obtain ⟨R, hR⟩ : ∃ R, R = powR b n := ⟨_, rfl⟩
      rw [← hR]
      have HR : Hid (powF n.toNat 1 b = R) := by rw [hR]; exact (if_pos ⟨by omega, h2, h3⟩).symm
      clear hR
      have HI : Hid (inB n 0 100 = true) := inB_t ⟨h2, h3⟩
      go_enter Tryd.func27, Tryd.ntmps27
      go_wp2_with (fail)
      go_loop [6, 20] (fun x i => ∃ (k : Nat) (v : Int), (k : Int) ≤ n ∧ i = .int .i64 k ∧ x = .int .i64 v ∧ 0 ≤ v ∧ v ≤ 9223372036854775807 ∧ Hid (powF (n.toNat - k) v b = R)) (fun _ i => n.toNat - (intOf i).toNat)
      case atStart => exact ⟨0, 1, by omega, rfl, rfl, by omega, by omega, HR⟩
      case round =>
        obtain ⟨k, v, hk, rfl, rfl, hv0, hv1, HK⟩ := hrel
        by_cases hlt : (k : Int) < n
        · obtain ⟨m, hm⟩ : ∃ m, n.toNat - k = m + 1 := ⟨n.toNat - k - 1, by omega⟩
          have hm' : n.toNat - (k + 1) = m := by omega
          cases hM : mulB v b with
          | false =>
            have HM := Lib.hid hM
            have HE : Hid ((0, false) = R) := by rw [← HK.out, hm]; exact (powF_no hM).symm
            clear hM hm hm'
            go_wp2_with ((go_at_call 49; refine (i_MulInt _ _ (by omega) hb _).mono ?_; rintro e w' ⟨rfl, rfl⟩; rw [HM.out]))
            go_ret2
            exact ⟨ret_pair HE.out, rfl⟩
          | true =>
            have HM := Lib.hid hM
            have bd := mulV_bd hM
            have HE : Hid (powF (n.toNat - (k + 1)) (mulV v b) b = R) := by rw [← HK.out, hm, hm']; exact (powF_yes hM).symm
            clear hM hm hm'
            go_wp2_with ((go_at_call 49; refine (i_MulInt _ _ (by omega) hb _).mono ?_; rintro e w' ⟨rfl, rfl⟩; rw [HM.out]))
            go_round
            case rel => exact ⟨k + 1, _, by omega, by go_num, rfl, bd.1, bd.2, HE⟩
            case measure => simp [intOf]; omega
        · have HE : Hid ((v, true) = R) := by
            rw [← HK.out, show n.toNat - k = 0 by omega]; rfl
          go_wp2
          go_ret2
          exact ⟨ret_pair HE.out, rfl⟩
    · rw [show powR b n = (0, false) from if_neg (by omega)]
      have HI : Hid (inB n 0 100 = false) := inB_f h2
      by_cases h3 : n < 0
      · go_enter Tryd.func27, Tryd.ntmps27; go_wp2_with (fail); go_ret2; exact ⟨rfl, rfl⟩
      · have h4 : 100 < n := by omega
        go_enter Tryd.func27, Tryd.ntmps27; go_wp2_with (fail); go_ret2; exact ⟨rfl, rfl⟩

end Go.Proofs.YtpbflceekikbiaaDoor
