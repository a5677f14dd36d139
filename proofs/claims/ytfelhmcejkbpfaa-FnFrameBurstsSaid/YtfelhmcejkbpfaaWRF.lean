/-
  ReadFixed (both sides) and its law. No conditions but the bound on the text.
-/
import Derived.Test.YtfelhmcejkbpfaaWFix
namespace Go.Proofs.Ytfelhmcejkbpfaa
open Go.ChangeShapes Go.WideShapes Go.ChangeAt Go.RowKit

def rfN (s : ByteArray) (p q : Nat) : Nat := Crc.num ((s.data.toList.drop p).take q)
def rf (s : ByteArray) (a wd : Int) : Int × Bool :=
  if 0 ≤ a ∧ 1 ≤ wd ∧ wd ≤ 8 ∧ a + wd ≤ s.size ∧ rfN s a.toNat wd.toNat < 2 ^ 63 then ((rfN s a.toNat wd.toNat : Nat), true) else (0, false)
theorem ret_ib {a : Int} {b : Bool} {r : Int × Bool} (h : r = (a, b)) : Ending.returned (.tuple #[.int .i64 a, .bool b]) = .returned (.tuple #[.int .i64 r.1, .bool r.2]) := by rw [h]

theorem rf_cons (s : ByteArray) (k : Nat) (h : k < s.size) : s.data.toList.drop k = s[k] :: s.data.toList.drop (k + 1) := by
  rw [List.drop_eq_getElem_cons (by simpa using h)]; rfl
theorem rf_front (s : ByteArray) (p q : Nat) (h : p < s.size) : rfN s p (q + 1) = s[p].toNat + 256 * rfN s (p + 1) q := by
  unfold rfN
  rw [rf_cons s p h, List.take_succ_cons]
  rfl
theorem rf_back (s : ByteArray) (p k : Nat) (h : p + k < s.size) : rfN s p (k + 1) = rfN s p k + 256 ^ k * s[p + k].toNat := by
  unfold rfN
  rw [List.take_add (i := k) (j := 1), List.drop_drop, Crc.num_append, rf_cons s (p + k) h]
  simp only [List.take_succ_cons, List.take_zero, Crc.num, List.length_take, List.length_drop, Nat.mul_zero, Nat.add_zero]
  rw [Nat.min_eq_left (by simp; omega)]
theorem rf_lt (s : ByteArray) (p q : Nat) (h : p + q ≤ s.size) : rfN s p q < 256 ^ q := by
  have := Crc.num_lt ((s.data.toList.drop p).take q)
  rw [List.length_take, List.length_drop, Nat.min_eq_left (by simp; omega)] at this
  exact this
theorem rf_mono (s : ByteArray) (p k m : Nat) (h : p + (k + m) ≤ s.size) : rfN s p k ≤ rfN s p (k + m) ∧ rfN s (p + k) m ≤ rfN s p (k + m) := by
  have e : rfN s p (k + m) = rfN s p k + 256 ^ k * rfN s (p + k) m := by
    unfold rfN
    rw [List.take_add, List.drop_drop, Crc.num_append, List.length_take, List.length_drop, Nat.min_eq_left (by simp; omega)]
  have h1 : 1 ≤ 256 ^ k := Nat.pow_pos (by decide)
  have h2 := Nat.mul_le_mul_right (rfN s (p + k) m) h1
  omega
theorem rf_small (s : ByteArray) (p q : Nat) (h : p + q ≤ s.size) (hq : q < 8) : rfN s p q < 2 ^ 63 := by
  have := rf_lt s p q h
  have h2 : 256 ^ q ≤ 256 ^ 7 := Nat.pow_le_pow_right (by decide) (by omega)
  have e7 : (256 : Nat) ^ 7 = 72057594037927936 := by decide
  omega
theorem rf_eight (s : ByteArray) (p : Nat) (h : p + 8 ≤ s.size) : rfN s p 8 < 2 ^ 63 ↔ s[p + 7].toNat ≤ 127 := by
  rw [rf_back s p 7 (by omega)]
  have := rf_lt s p 7 (by omega)
  have e7 : (256 : Nat) ^ 7 = 72057594037927936 := by decide
  rw [e7] at this ⊢
  omega
/-- One round upwards. -/
theorem rf_or {N c k : Nat} (hN : N < 256 ^ k) (hb : N + 256 ^ k * c < 2 ^ 63) : bits .or .i64 (N : Int) (wrap64 ((c : Int) * 2 ^ (8 * k))) = ((N + 256 ^ k * c : Nat) : Int) := by
  have e : (c : Int) * 2 ^ (8 * k) = ((256 ^ k * c : Nat) : Int) := by rw [Int.pow_mul, Int.mul_comm]; simp
  have e2 : (256 : Nat) ^ k = 2 ^ (8 * k) := by rw [Nat.pow_mul]
  rw [e, IntWalk.wrap64_in _ ⟨by omega, by omega⟩, or_i64 _ _ (by omega) (by omega)]
  rw [Nat.mul_comm, e2, or_add _ _ _ (by rw [← e2]; exact hN)]
theorem rf_byte (s : ByteArray) (k : Nat) (h : k < s.size) : (0 : Int) ≤ (s[k].toNat : Int) ∧ (s[k].toNat : Int) ≤ 255 := by
  have : s[k].toNat < 256 := s[k].toNat_lt
  omega

theorem s_ReadFixed_in (s : ByteArray) (p q : Nat) (hs : s.size ≤ 2147483648) (h1 : 1 ≤ q) (h2 : q ≤ 8) (h3 : p + q ≤ s.size) (hok : rfN s p q < 2 ^ 63) (w : World) : Calls Try.prog 56 #[.string s, .int .i64 (p : Int), .int .i64 (q : Int)] w fun e w' => e = .returned (.tuple #[.int .i64 (rf s p q).1, .bool (rf s p q).2]) ∧ w = w' := by
  have HR : Hid (rf s p q = (((rfN s p q : Nat) : Int), true)) := if_pos ⟨by omega, by omega, by omega, by omega, hok⟩
  have HI : Hid (inB (q : Int) 1 8 = true) := inB_t ⟨by omega, by omega⟩
  have HI2 : Hid (inB (p : Int) 0 ((s.size : Int) - (q : Int)) = true) := inB_t ⟨by omega, by omega⟩
  have hple : (p : Int) ≤ (s.size : Int) - (q : Int) := by omega
  have htop : ((q : Int) == 8) = false ∨ (((q : Int) == 8) = true ∧ ∃ (x : Int), (∀ h : p + 7 < s.size, (s[p + 7].toNat : Int) = x) ∧ x ≤ 127 ∧ p + 7 < s.size) := by
    by_cases h8 : q = 8
    · subst h8
      have := (rf_eight s p h3).1 hok
      exact .inr ⟨by decide, ((s[p + 7]'(by omega)).toNat : Int), fun _ => rfl, by omega, by omega⟩
    · exact .inl (by simp; omega)
  have Hok := Lib.hid hok
  clear hok
  rcases htop with h8 | ⟨h8, x, hx, hx127, hp7⟩
  · go_enter Try.func56, Try.ntmps56
    go_wp2_with (go_at_call 47; first | (with_reducible refine (s_l01In (q : Int) 1 8 _).mono ?_; rintro e w' ⟨rfl, rfl⟩; rw [HI.out]) | (refine (s_l01In _ _ _ _).mono ?_; rintro e w' ⟨rfl, rfl⟩; rw [HI2.out]))
    have hok := Hok.out
    go_loop [8, 9] (fun n i => ∃ k : Nat, k ≤ q ∧ i = .int .i64 ((k : Int) - 1) ∧ n = .int .i64 (rfN s (p + k) (q - k) : Nat)) (fun _ i => (intOf i + 1).toNat)
    case atStart => exact ⟨q, by omega, rfl, by rw [Nat.sub_self]; rfl⟩
    case round =>
      obtain ⟨k, hk, rfl, rfl⟩ := hrel
      by_cases hlt : 0 < k
      · obtain ⟨j, rfl⟩ : ∃ j, k = j + 1 := ⟨k - 1, by omega⟩
        have hin : p + j < s.size := by omega
        have hf := rf_front s (p + j) (q - (j + 1)) hin
        have hm := (rf_mono s p j (q - j) (by omega)).2
        rw [show j + (q - j) = q by omega] at hm
        rw [show q - (j + 1) + 1 = q - j by omega] at hf
        obtain ⟨N, hN⟩ : ∃ N, N = rfN s (p + (j + 1)) (q - (j + 1)) := ⟨_, rfl⟩
        rw [← Nat.add_assoc] at hN
        rw [← hN] at hf
        have hN' : rfN s (p + (j + 1)) (q - (j + 1)) = N := hN.symm
        rw [hN']
        have hb := rf_byte s (p + j) hin
        obtain ⟨x, hx⟩ : ∃ x : Int, (s[p + j].toNat : Int) = x := ⟨_, rfl⟩
        have hv : (rfN s (p + j) (q - j) : Int) = 256 * (N : Int) + x := by rw [← hx]; omega
        have hbd : 256 * (N : Int) + x ≤ 9223372036854775807 := by omega
        have hx0 : 0 ≤ x := by omega
        have HV := Lib.hid hv
        have hidx : (p : Int) + ((j : Int) + 1 - 1) = (p : Int) + (j : Int) := by omega
        have h0 : (0 : Int) ≤ (p : Int) + (j : Int) := by omega
        clear hv hN hN' hf hm hb hok
        go_wp2_with fail
        go_round
        case rel => first | exact ⟨j, by omega, congrArg (Value.int .i64) (by omega), by rw [HV.out]⟩ | (refine ⟨trivial, ?_⟩; (repeat apply Exists.intro); refine ⟨?_, rfl⟩; exact ⟨j, by omega, congrArg (Value.int .i64) (by omega), by rw [HV.out]⟩)
        case measure => simp [intOf] <;> omega
      · obtain rfl : k = 0 := by omega
        go_wp2_with fail
        go_ret2
        exact ⟨ret_ib HR.out, rfl⟩
  · have hd : decide ((127 : Int) < ((s[p + 7]'hp7).toNat : Int)) = false := by rw [hx hp7]; simp; omega
    clear hx hx127 x
    have h0 : (0 : Int) ≤ (p : Int) + 7 := by omega
    have hlt7 : (p : Int) + 7 < (s.size : Int) := by omega
    go_enter Try.func56, Try.ntmps56
    go_wp2_with (go_at_call 47; first | (with_reducible refine (s_l01In (q : Int) 1 8 _).mono ?_; rintro e w' ⟨rfl, rfl⟩; rw [HI.out]) | (refine (s_l01In _ _ _ _).mono ?_; rintro e w' ⟨rfl, rfl⟩; rw [HI2.out]))
    have hok := Hok.out
    go_loop [8, 9] (fun n i => ∃ k : Nat, k ≤ q ∧ i = .int .i64 ((k : Int) - 1) ∧ n = .int .i64 (rfN s (p + k) (q - k) : Nat)) (fun _ i => (intOf i + 1).toNat)
    case atStart => exact ⟨q, by omega, rfl, by rw [Nat.sub_self]; rfl⟩
    case round =>
      obtain ⟨k, hk, rfl, rfl⟩ := hrel
      by_cases hlt : 0 < k
      · obtain ⟨j, rfl⟩ : ∃ j, k = j + 1 := ⟨k - 1, by omega⟩
        have hin : p + j < s.size := by omega
        have hf := rf_front s (p + j) (q - (j + 1)) hin
        have hm := (rf_mono s p j (q - j) (by omega)).2
        rw [show j + (q - j) = q by omega] at hm
        rw [show q - (j + 1) + 1 = q - j by omega] at hf
        obtain ⟨N, hN⟩ : ∃ N, N = rfN s (p + (j + 1)) (q - (j + 1)) := ⟨_, rfl⟩
        rw [← Nat.add_assoc] at hN
        rw [← hN] at hf
        have hN' : rfN s (p + (j + 1)) (q - (j + 1)) = N := hN.symm
        rw [hN']
        have hb := rf_byte s (p + j) hin
        obtain ⟨x, hx⟩ : ∃ x : Int, (s[p + j].toNat : Int) = x := ⟨_, rfl⟩
        have hv : (rfN s (p + j) (q - j) : Int) = 256 * (N : Int) + x := by rw [← hx]; omega
        have hbd : 256 * (N : Int) + x ≤ 9223372036854775807 := by omega
        have hx0 : 0 ≤ x := by omega
        have HV := Lib.hid hv
        have hidx : (p : Int) + ((j : Int) + 1 - 1) = (p : Int) + (j : Int) := by omega
        have h0 : (0 : Int) ≤ (p : Int) + (j : Int) := by omega
        clear hv hN hN' hf hm hb hok
        go_wp2_with fail
        go_round
        case rel => first | exact ⟨j, by omega, congrArg (Value.int .i64) (by omega), by rw [HV.out]⟩ | (refine ⟨trivial, ?_⟩; (repeat apply Exists.intro); refine ⟨?_, rfl⟩; exact ⟨j, by omega, congrArg (Value.int .i64) (by omega), by rw [HV.out]⟩)
        case measure => simp [intOf] <;> omega
      · obtain rfl : k = 0 := by omega
        go_wp2_with fail
        go_ret2
        exact ⟨ret_ib HR.out, rfl⟩

theorem i_ReadFixed_in (s : ByteArray) (p q : Nat) (hs : s.size ≤ 2147483648) (h1 : 1 ≤ q) (h2 : q ≤ 8) (h3 : p + q ≤ s.size) (hok : rfN s p q < 2 ^ 63) (w : World) : Calls Try.prog 58 #[.string s, .int .i64 (p : Int), .int .i64 (q : Int)] w fun e w' => e = .returned (.tuple #[.int .i64 (rf s p q).1, .bool (rf s p q).2]) ∧ w = w' := by
  have HR : Hid (rf s p q = (((rfN s p q : Nat) : Int), true)) := if_pos ⟨by omega, by omega, by omega, by omega, hok⟩
  have HI : Hid (inB (q : Int) 1 8 = true) := inB_t ⟨by omega, by omega⟩
  have hple : (p : Int) ≤ (s.size : Int) - (q : Int) := by omega
  have htop : ((q : Int) == 8) = false ∨ (((q : Int) == 8) = true ∧ ∃ (x : Int), (∀ h : p + 7 < s.size, (s[p + 7].toNat : Int) = x) ∧ x ≤ 127 ∧ p + 7 < s.size) := by
    by_cases h8 : q = 8
    · subst h8
      have := (rf_eight s p h3).1 hok
      exact .inr ⟨by decide, ((s[p + 7]'(by omega)).toNat : Int), fun _ => rfl, by omega, by omega⟩
    · exact .inl (by simp; omega)
  have Hok := Lib.hid hok
  clear hok
  rcases htop with h8 | ⟨h8, x, hx, hx127, hp7⟩
  · go_enter Try.func58, Try.ntmps58
    go_wp2_with (go_at_call 48; refine (i_within _ _ _ _).mono ?_; rintro e w' ⟨rfl, rfl⟩; rw [HI.out])
    have hok := Hok.out
    go_loop [8, 37] (fun n i => ∃ k : Nat, k ≤ q ∧ i = .int .i64 (k : Int) ∧ n = .int .i64 (rfN s p k : Nat)) (fun _ i => q - (intOf i).toNat)
    case atStart => exact ⟨0, by omega, rfl, rfl⟩
    case round =>
      obtain ⟨k, hk, rfl, rfl⟩ := hrel
      by_cases hlt : k < q
      · have hin : p + k < s.size := by omega
        have hf := rf_back s p k hin
        have hm := (rf_mono s p (k + 1) (q - (k + 1)) (by omega)).1
        rw [show k + 1 + (q - (k + 1)) = q by omega] at hm
        have hl := rf_lt s p k (by omega)
        have hv0 := rf_or (c := s[p + k].toNat) hl (by omega)
        obtain ⟨N, hN⟩ : ∃ N, rfN s p k = N := ⟨_, rfl⟩
        obtain ⟨M, hM⟩ : ∃ M, rfN s p (k + 1) = M := ⟨_, rfl⟩
        rw [hN]
        rw [← hf, hN, hM] at hv0
        obtain ⟨x, hx⟩ : ∃ x : Int, (s[p + k].toNat : Int) = x := ⟨_, rfl⟩
        have hb := rf_byte s (p + k) hin
        rw [hx] at hv0 hb
        obtain ⟨hx0, hx1⟩ := hb
        have HM := Lib.hid hM
        have h0 : (0 : Int) ≤ (p : Int) + (k : Int) := by omega
        clear hN hM hf hm hl hok
        go_wp2_with fail
        go_round
        case rel => exact ⟨k + 1, by omega, by go_num, by rw [HM.out]⟩
        case measure => simp [intOf] <;> omega
      · obtain rfl : k = q := by omega
        go_wp2_with fail
        go_ret2
        exact ⟨ret_ib HR.out, rfl⟩
  · have hx := hx hp7
    have h0 : (0 : Int) ≤ (p : Int) + 7 := by omega
    have hlt7 : (p : Int) + 7 < (s.size : Int) := by omega
    go_enter Try.func58, Try.ntmps58
    go_wp2_with (go_at_call 48; refine (i_within _ _ _ _).mono ?_; rintro e w' ⟨rfl, rfl⟩; rw [HI.out])
    have hok := Hok.out
    go_loop [8, 37] (fun n i => ∃ k : Nat, k ≤ q ∧ i = .int .i64 (k : Int) ∧ n = .int .i64 (rfN s p k : Nat)) (fun _ i => q - (intOf i).toNat)
    case atStart => exact ⟨0, by omega, rfl, rfl⟩
    case round =>
      obtain ⟨k, hk, rfl, rfl⟩ := hrel
      by_cases hlt : k < q
      · have hin : p + k < s.size := by omega
        have hf := rf_back s p k hin
        have hm := (rf_mono s p (k + 1) (q - (k + 1)) (by omega)).1
        rw [show k + 1 + (q - (k + 1)) = q by omega] at hm
        have hl := rf_lt s p k (by omega)
        have hv0 := rf_or (c := s[p + k].toNat) hl (by omega)
        obtain ⟨N, hN⟩ : ∃ N, rfN s p k = N := ⟨_, rfl⟩
        obtain ⟨M, hM⟩ : ∃ M, rfN s p (k + 1) = M := ⟨_, rfl⟩
        rw [hN]
        rw [← hf, hN, hM] at hv0
        obtain ⟨x, hx⟩ : ∃ x : Int, (s[p + k].toNat : Int) = x := ⟨_, rfl⟩
        have hb := rf_byte s (p + k) hin
        rw [hx] at hv0 hb
        obtain ⟨hx0, hx1⟩ := hb
        have HM := Lib.hid hM
        have h0 : (0 : Int) ≤ (p : Int) + (k : Int) := by omega
        clear hN hM hf hm hl hok
        go_wp2_with fail
        go_round
        case rel => exact ⟨k + 1, by omega, by go_num, by rw [HM.out]⟩
        case measure => simp [intOf] <;> omega
      · obtain rfl : k = q := by omega
        go_wp2_with fail
        go_ret2
        exact ⟨ret_ib HR.out, rfl⟩

theorem rf_out {s : ByteArray} {a wd : Int} (h : ¬ (0 ≤ a ∧ 1 ≤ wd ∧ wd ≤ 8 ∧ a + wd ≤ s.size)) : rf s a wd = (0, false) := if_neg (fun hc => h ⟨hc.1, hc.2.1, hc.2.2.1, hc.2.2.2.1⟩)

theorem s_ReadFixed (s : ByteArray) (a wd : Int) (hs : s.size ≤ 2147483648) (hwd : -9223372036854775808 ≤ wd ∧ wd ≤ 9223372036854775807) (w : World) : Calls Try.prog 56 #[.string s, .int .i64 a, .int .i64 wd] w fun e w' => e = .returned (.tuple #[.int .i64 (rf s a wd).1, .bool (rf s a wd).2]) ∧ w = w' := by
  by_cases hw : 1 ≤ wd ∧ wd ≤ 8
  · by_cases ha : 0 ≤ a ∧ a + wd ≤ s.size
    · obtain ⟨p, rfl⟩ : ∃ m : Nat, a = (m : Int) := ⟨a.toNat, by omega⟩
      obtain ⟨q, rfl⟩ : ∃ m : Nat, wd = (m : Int) := ⟨wd.toNat, by omega⟩
      by_cases hok : rfN s p q < 2 ^ 63
      · exact s_ReadFixed_in s p q hs (by omega) (by omega) (by omega) hok w
      · have HR : Hid (rf s p q = (0, false)) := if_neg (fun hc => hok hc.2.2.2.2)
        obtain rfl : q = 8 := by
          rcases Nat.lt_or_ge q 8 with h | h
          · exact absurd (rf_small s p q (by omega) h) hok
          · omega
        have hx : 127 < (s[p + 7]'(by omega)).toNat := by
          rcases Nat.lt_or_ge 127 (s[p + 7]'(by omega)).toNat with h | h
          · exact h
          · exact absurd ((rf_eight s p (by omega)).2 h) hok
        obtain ⟨x, hx'⟩ : ∃ x : Int, ((s[p + 7]'(by omega)).toNat : Int) = x := ⟨_, rfl⟩
        have hlt : (127 : Int) < x := by omega
        have h0 : (0 : Int) ≤ (p : Int) + 7 := by omega
        have hlt7 : (p : Int) + 7 < (s.size : Int) := by omega
        have HI : Hid (inB 8 1 8 = true) := inB_t ⟨by omega, by omega⟩
        have HI2 : Hid (inB (p : Int) 0 ((s.size : Int) - 8) = true) := inB_t ⟨by omega, by omega⟩
        clear hx hok
        show Calls Try.prog 56 #[.string s, .int .i64 (p : Int), .int .i64 8] _ _
        go_enter Try.func56, Try.ntmps56
        go_wp2_with (go_at_call 47; first | (with_reducible refine (s_l01In 8 1 8 _).mono ?_; rintro e w' ⟨rfl, rfl⟩; rw [HI.out]) | (refine (s_l01In _ _ _ _).mono ?_; rintro e w' ⟨rfl, rfl⟩; first | rw [HI2.out] | rw [HI.out]))
        go_ret2
        exact ⟨ret_ib HR.out, rfl⟩
    · have HR := Lib.hid (rf_out (s := s) (a := a) (wd := wd) (by omega))
      have HI : Hid (inB wd 1 8 = true) := inB_t hw
      have HI2 : Hid (inB a 0 ((s.size : Int) - wd) = false) := inB_f (by omega)
      obtain ⟨hw1, hw2⟩ := hw
      clear ha
      go_enter Try.func56, Try.ntmps56
      go_wp2_with (go_at_call 47; first | (with_reducible refine (s_l01In wd 1 8 _).mono ?_; rintro e w' ⟨rfl, rfl⟩; rw [HI.out]) | (refine (s_l01In _ _ _ _).mono ?_; rintro e w' ⟨rfl, rfl⟩; rw [HI2.out]))
      go_ret2
      exact ⟨ret_ib HR.out, rfl⟩
  · have HR := Lib.hid (rf_out (s := s) (a := a) (wd := wd) (by omega))
    have HI : Hid (inB wd 1 8 = false) := inB_f hw
    clear hw
    go_enter Try.func56, Try.ntmps56
    go_wp2_with (go_at_call 47; refine (s_l01In _ _ _ _).mono ?_; rintro e w' ⟨rfl, rfl⟩; rw [HI.out])
    go_ret2
    exact ⟨ret_ib HR.out, rfl⟩

theorem i_ReadFixed (s : ByteArray) (a wd : Int) (hs : s.size ≤ 2147483648) (hwd : -9223372036854775808 ≤ wd ∧ wd ≤ 9223372036854775807) (w : World) : Calls Try.prog 58 #[.string s, .int .i64 a, .int .i64 wd] w fun e w' => e = .returned (.tuple #[.int .i64 (rf s a wd).1, .bool (rf s a wd).2]) ∧ w = w' := by
  by_cases h0a : a < 0
  · have HR := Lib.hid (rf_out (s := s) (a := a) (wd := wd) (by omega))
    go_enter Try.func58, Try.ntmps58
    go_wp2_with fail
    go_ret2
    exact ⟨ret_ib HR.out, rfl⟩
  · by_cases hw : 1 ≤ wd ∧ wd ≤ 8
    · by_cases ha : a + wd ≤ s.size
      · obtain ⟨p, rfl⟩ : ∃ m : Nat, a = (m : Int) := ⟨a.toNat, by omega⟩
        obtain ⟨q, rfl⟩ : ∃ m : Nat, wd = (m : Int) := ⟨wd.toNat, by omega⟩
        by_cases hok : rfN s p q < 2 ^ 63
        · exact i_ReadFixed_in s p q hs (by omega) (by omega) (by omega) hok w
        · have HR : Hid (rf s p q = (0, false)) := if_neg (fun hc => hok hc.2.2.2.2)
          obtain rfl : q = 8 := by
            rcases Nat.lt_or_ge q 8 with h | h
            · exact absurd (rf_small s p q (by omega) h) hok
            · omega
          have hx : 127 < (s[p + 7]'(by omega)).toNat := by
            rcases Nat.lt_or_ge 127 (s[p + 7]'(by omega)).toNat with h | h
            · exact h
            · exact absurd ((rf_eight s p (by omega)).2 h) hok
          obtain ⟨x, hx'⟩ : ∃ x : Int, ((s[p + 7]'(by omega)).toNat : Int) = x := ⟨_, rfl⟩
          have hlt : (127 : Int) < x := by omega
          have h0 : (0 : Int) ≤ (p : Int) + 7 := by omega
          have hlt7 : (p : Int) + 7 < (s.size : Int) := by omega
          have hle8 : ¬ (s.size : Int) - 8 < (p : Int) := by omega
          have HI : Hid (inB 8 1 8 = true) := inB_t ⟨by omega, by omega⟩
          clear hx hok
          show Calls Try.prog 58 #[.string s, .int .i64 (p : Int), .int .i64 8] _ _
          go_enter Try.func58, Try.ntmps58
          go_wp2_with (go_at_call 48; refine (i_within _ _ _ _).mono ?_; rintro e w' ⟨rfl, rfl⟩; rw [HI.out])
          go_ret2
          exact ⟨ret_ib HR.out, rfl⟩
      · have HR := Lib.hid (rf_out (s := s) (a := a) (wd := wd) (by omega))
        have HI : Hid (inB wd 1 8 = true) := inB_t hw
        have hgt : (s.size : Int) - wd < a := by omega
        obtain ⟨hw1, hw2⟩ := hw
        clear ha
        go_enter Try.func58, Try.ntmps58
        go_wp2_with (go_at_call 48; refine (i_within _ _ _ _).mono ?_; rintro e w' ⟨rfl, rfl⟩; rw [HI.out])
        go_ret2
        exact ⟨ret_ib HR.out, rfl⟩
    · have HR := Lib.hid (rf_out (s := s) (a := a) (wd := wd) (by omega))
      have HI : Hid (inB wd 1 8 = false) := inB_f hw
      clear hw
      go_enter Try.func58, Try.ntmps58
      go_wp2_with (go_at_call 48; refine (i_within _ _ _ _).mono ?_; rintro e w' ⟨rfl, rfl⟩; rw [HI.out])
      go_ret2
      exact ⟨ret_ib HR.out, rfl⟩

end Go.Proofs.Ytfelhmcejkbpfaa
