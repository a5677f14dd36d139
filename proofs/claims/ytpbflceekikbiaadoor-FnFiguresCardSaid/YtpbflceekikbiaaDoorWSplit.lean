/-
  SplitAmount (both sides) and its law. No conditions.
-/
import Derived.Test.YtpbflceekikbiaaDoorKit
import Derived.WalkLawsBesides
import Derived.Handy
import Derived.Outline
import Derived.Lib.Hide
import Derived.Deep.QuietTactic
import Derived.BigQuiet
namespace Go.Proofs.YtpbflceekikbiaaDoor
open Go.ChangeShapes Go.WideShapes Go.ChangeAt Go.RowKit

/-- How many decimal digits stand first. -/
def dn : List UInt8 → Nat
  | [] => 0
  | c :: t => if 48 ≤ c.toNat ∧ c.toNat ≤ 57 then dn t + 1 else 0
theorem dn_le : ∀ l, dn l ≤ l.length
  | [] => by simp [dn]
  | c :: t => by unfold dn; have := dn_le t; split <;> simp <;> omega
theorem sp_cons (s : ByteArray) (k : Nat) (h : k < s.size) : s.data.toList.drop k = s[k] :: s.data.toList.drop (k + 1) := by
  rw [List.drop_eq_getElem_cons (by simpa using h)]; rfl
theorem dn_on {s : ByteArray} {k r : Nat} (h : k < s.size) (hd : 48 ≤ s[k].toNat ∧ s[k].toNat ≤ 57) (hr : Hid (k + dn (s.data.toList.drop k) = r)) : Hid (k + 1 + dn (s.data.toList.drop (k + 1)) = r) := by
  have hr := hr.out
  rw [sp_cons s k h, dn, if_pos hd] at hr
  show _ = r
  omega
theorem dn_off {s : ByteArray} {k r : Nat} (h : k < s.size) (hd : ¬ (48 ≤ s[k].toNat ∧ s[k].toNat ≤ 57)) (hr : Hid (k + dn (s.data.toList.drop k) = r)) : k = r := by
  have hr := hr.out
  rw [sp_cons s k h, dn, if_neg hd] at hr
  omega
theorem dn_end {s : ByteArray} {k r : Nat} (h : s.size ≤ k) (hr : Hid (k + dn (s.data.toList.drop k) = r)) : k = r := by
  have hr := hr.out
  rw [List.drop_eq_nil_of_le (by simpa using h)] at hr
  simpa [dn] using hr
theorem ret_ss {a b c d : ByteArray} (h : a = c) (h2 : b = d) : Ending.returned (.tuple #[.string a, .string b]) = .returned (.tuple #[.string c, .string d]) := by rw [h, h2]
def digB (c : Int) : Bool := decide (48 ≤ c ∧ c ≤ 57)
theorem dig_t {c : Int} (h : 48 ≤ c ∧ c ≤ 57) : digB c = true := decide_eq_true h
theorem dig_f {c : Int} (h : ¬ (48 ≤ c ∧ c ≤ 57)) : digB c = false := decide_eq_false h
theorem i_isDigit (c : Int) (w : World) : Calls Tryd.prog 59 #[.int .u8 c] w fun e w' => e = .returned (.bool (digB c)) ∧ w = w' := by
  by_cases h1 : 48 ≤ c
  · by_cases h2 : c ≤ 57
    · rw [dig_t ⟨h1, h2⟩]; go_enter Tryd.func59, Tryd.ntmps59; go_wp2; go_ret; exact ⟨rfl, rfl⟩
    · rw [dig_f (by omega)]; go_enter Tryd.func59, Tryd.ntmps59; go_wp2; go_ret; exact ⟨rfl, rfl⟩
  · rw [dig_f (by omega)]; go_enter Tryd.func59, Tryd.ntmps59; go_wp2; go_ret; exact ⟨rfl, rfl⟩

theorem s_SplitAmount (s : ByteArray) (hs : s.size ≤ 2147483648) (w : World) : Calls Tryd.prog 53 #[.string s] w fun e w' => e = .returned (.tuple #[.string (s.extract 0 (dn s.data.toList)), .string (s.extract (dn s.data.toList) s.size)]) ∧ Below w.heap.size w w' := by
  obtain ⟨r, hr⟩ : ∃ r, r = dn s.data.toList := ⟨_, rfl⟩
  rw [← hr]
  have HR : Hid (0 + dn (s.data.toList.drop 0) = r) := by rw [hr]; show 0 + dn _ = _; simp
  have hle : r ≤ s.size := by have := dn_le s.data.toList; rw [hr]; simpa using this
  clear hr
  go_enter Tryd.func53, Tryd.ntmps53
  go_wp2_with fail
  go_loop [4] (fun i => ∃ k : Nat, k ≤ s.size ∧ i = .int .i64 (k : Int) ∧ Hid (k + dn (s.data.toList.drop k) = r)) (fun i => s.size - (intOf i).toNat)
  case atStart => exact ⟨0, by omega, rfl, HR⟩
  case round =>
    obtain ⟨k, hk, rfl, HK⟩ := hrel
    by_cases hlt : k < s.size
    · obtain ⟨x, hx⟩ : ∃ x : Int, (s[k].toNat : Int) = x := ⟨_, rfl⟩
      by_cases hd : 48 ≤ x ∧ x ≤ 57
      · have HN := dn_on hlt (by omega) HK
        obtain ⟨hd1, hd2⟩ := hd
        clear HK
        go_wp2_with fail
        go_round
        case rel => exact ⟨k + 1, by omega, by go_num, HN⟩
        case measure => simp [intOf]; omega
      · obtain rfl := dn_off hlt (by omega) HK
        clear HK
        by_cases hd1 : 48 ≤ x
        all_goals
          go_wp2_with fail
          go_quiet (fail)
          go_wp2
          go_ret2
          exact ⟨rfl, below_drewN (Below.refl _ _) _⟩
    · obtain rfl := dn_end (by omega) HK
      clear HK
      go_wp2_with fail
      go_quiet (fail)
      go_wp2
      go_ret2
      exact ⟨rfl, below_drewN (Below.refl _ _) _⟩

theorem i_SplitAmount (s : ByteArray) (hs : s.size ≤ 2147483648) (w : World) : Calls Tryd.prog 41 #[.string s] w fun e w' => e = .returned (.tuple #[.string (s.extract 0 (dn s.data.toList)), .string (s.extract (dn s.data.toList) s.size)]) ∧ Below w.heap.size w w' := by
  obtain ⟨r, hr⟩ : ∃ r, r = dn s.data.toList := ⟨_, rfl⟩
  rw [← hr]
  have HR : Hid (0 + dn (s.data.toList.drop 0) = r) := by rw [hr]; show 0 + dn _ = _; simp
  have hle : r ≤ s.size := by have := dn_le s.data.toList; rw [hr]; simpa using this
  clear hr
  go_enter Tryd.func41, Tryd.ntmps41
  go_wp2_with fail
  go_loop [4] (fun i => ∃ k : Nat, k ≤ s.size ∧ i = .int .i64 (k : Int) ∧ Hid (k + dn (s.data.toList.drop k) = r)) (fun i => s.size - (intOf i).toNat)
  case atStart => exact ⟨0, by omega, rfl, HR⟩
  case round =>
    obtain ⟨k, hk, rfl, HK⟩ := hrel
    by_cases hlt : k < s.size
    · obtain ⟨x, hx⟩ : ∃ x : Int, (s[k].toNat : Int) = x := ⟨_, rfl⟩
      by_cases hd : 48 ≤ x ∧ x ≤ 57
      · have HN := dn_on hlt (by omega) HK
        have HD : Hid (digB x = true) := dig_t hd
        obtain ⟨hd1, hd2⟩ := hd
        clear HK
        go_wp2_with (go_at_call 59; refine (i_isDigit _ _).mono ?_; rintro e w' ⟨rfl, rfl⟩; rw [HD.out])
        go_round
        case rel => exact ⟨k + 1, by omega, by go_num, HN⟩
        case measure => simp [intOf]; omega
      · obtain rfl := dn_off hlt (by omega) HK
        clear HK
        by_cases hd1 : 48 ≤ x
        all_goals
          have HD : Hid (digB x = false) := dig_f hd
          go_wp2_with (go_at_call 59; refine (i_isDigit _ _).mono ?_; rintro e w' ⟨rfl, rfl⟩; rw [HD.out])
          go_quiet (fail)
          go_wp2
          go_ret2
          exact ⟨rfl, below_drewN (Below.refl _ _) _⟩
    · obtain rfl := dn_end (by omega) HK
      clear HK
      go_wp2_with (go_at_call 59; refine (i_isDigit _ _).mono ?_; rintro e w' ⟨rfl, rfl⟩; rw [HD.out])
      go_quiet (fail)
      go_wp2
      go_ret2
      exact ⟨rfl, below_drewN (Below.refl _ _) _⟩


end Go.Proofs.YtpbflceekikbiaaDoor
