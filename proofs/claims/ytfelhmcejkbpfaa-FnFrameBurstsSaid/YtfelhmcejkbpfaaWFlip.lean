/-
  Flipped (both sides) and its law. No conditions.
-/
import Derived.Test.YtfelhmcejkbpfaaCrc
import Derived.Test.YtfelhmcejkbpfaaConv
import Derived.Test.YtfelhmcejkbpfaaWInt
import Derived.Test.YtfelhmcejkbpfaaBits
import Derived.Deep.QuietTactic
import Derived.BigQuiet
import Derived.WalkSmall
import Derived.StillTailTactics
namespace Go.Proofs.Ytfelhmcejkbpfaa
open Go.ChangeShapes Go.WideShapes Go.ChangeAt Go.RowKit
namespace Crc
theorem flip_congr (l : List UInt8) (e e' : Nat) (h : e % 256 ^ l.length = e' % 256 ^ l.length) : flip l e = flip l e' := by
  refine num_inj (by rw [flip_length, flip_length]) ?_
  rw [num_flip, num_flip, h]
theorem flip_xor (l : List UInt8) (e e' : Nat) : flip (flip l e) e' = flip l (e ^^^ e') := by
  refine num_inj (by rw [flip_length, flip_length, flip_length]) ?_
  rw [num_flip, num_flip, num_flip, flip_length, show (256 : Nat) = 2 ^ 8 from rfl, ← Nat.pow_mul, xor_mod_two_pow, Nat.xor_assoc]
theorem flip_none (l : List UInt8) : flip l 0 = l := by
  refine num_inj (flip_length _ _) ?_
  rw [num_flip]
  simp
theorem flip_one : ∀ (m : List UInt8) (p : Nat), p < 8 * m.length → flip m (2 ^ p) = m.set (p / 8) (UInt8.ofNat ((m.getD (p / 8) 0).toNat ^^^ 2 ^ (p % 8)))
  | [], p, h => by simp at h
  | c :: t, p, h => by
    by_cases h8 : p < 8
    · have e1 : 2 ^ p < 256 := by
        have := Nat.pow_lt_pow_right (a := 2) (by decide) h8
        simpa using this
      rw [show p / 8 = 0 by omega, Nat.mod_eq_of_lt h8]
      show UInt8.ofNat (c.toNat ^^^ 2 ^ p % 256) :: flip t (2 ^ p / 256) = _
      rw [Nat.mod_eq_of_lt e1, Nat.div_eq_of_lt e1, flip_none]
      rfl
    · obtain ⟨q, rfl⟩ : ∃ q, p = q + 8 := ⟨p - 8, by omega⟩
      have e1 : 2 ^ (q + 8) = 256 * 2 ^ q := by rw [Nat.pow_add, Nat.mul_comm]
      rw [show (q + 8) / 8 = q / 8 + 1 by omega, show (q + 8) % 8 = q % 8 by omega]
      show UInt8.ofNat (c.toNat ^^^ 2 ^ (q + 8) % 256) :: flip t (2 ^ (q + 8) / 256) = _
      rw [e1, Nat.mul_mod_right, Nat.xor_zero, Nat.mul_div_cancel_left _ (by decide), flip_one t q (by simp at h; omega)]
      have e2 : UInt8.ofNat c.toNat = c := by simp
      rw [e2]
      rfl
/-- The bits of the burst below i. -/
def part (b a i : Nat) : Nat := b % 2 ^ i * 2 ^ a
theorem part_lt (b a i : Nat) : part b a i < 2 ^ (a + i) := by
  unfold part
  rw [Nat.pow_add, Nat.mul_comm]
  exact Nat.mul_lt_mul_of_pos_left (Nat.mod_lt _ (Nat.two_pow_pos _)) (Nat.two_pow_pos _)
theorem part_off {b a i : Nat} (h : b / 2 ^ i % 2 = 0) : part b a (i + 1) = part b a i := by
  unfold part
  rw [Nat.mod_pow_succ, h, Nat.mul_zero, Nat.add_zero]
theorem part_on {b a i : Nat} (h : b / 2 ^ i % 2 = 1) : part b a (i + 1) = part b a i ^^^ 2 ^ (a + i) := by
  have e : part b a (i + 1) = part b a i + 2 ^ (a + i) * 1 := by
    unfold part
    rw [Nat.mod_pow_succ, h, Nat.mul_one, Nat.mul_one, Nat.add_mul, ← Nat.pow_add, Nat.add_comm i a]
  rw [e, add_eq_xor _ _ _ (part_lt b a i), Nat.mul_one]
theorem part_32 {b a : Nat} (h : b < 2 ^ 32) : part b a 32 = b * 2 ^ a := by unfold part; rw [Nat.mod_eq_of_lt h]
theorem flip_on {l : List UInt8} {b a i : Nat} (h : b / 2 ^ i % 2 = 1) (hp : a + i < 8 * l.length) :
    flip l (part b a (i + 1)) = (flip l (part b a i)).set ((a + i) / 8) (UInt8.ofNat (((flip l (part b a i)).getD ((a + i) / 8) 0).toNat ^^^ 2 ^ ((a + i) % 8))) := by
  rw [part_on h, ← flip_xor, flip_one _ _ (by rw [flip_length]; exact hp)]
theorem flip_past {l : List UInt8} {b a i : Nat} (hp : 8 * l.length ≤ a + i) : flip l (part b a (i + 1)) = flip l (part b a i) := by
  rcases Nat.mod_two_eq_zero_or_one (b / 2 ^ i) with h | h
  · rw [part_off h]
  · refine flip_congr _ _ _ ?_
    rw [part_on h, show (256 : Nat) = 2 ^ 8 from rfl, ← Nat.pow_mul, xor_mod_two_pow]
    obtain ⟨d, hd⟩ : ∃ d, a + i = 8 * l.length + d := ⟨a + i - 8 * l.length, by omega⟩
    rw [hd, Nat.pow_add, Nat.mul_mod_right, Nat.xor_zero]
theorem flip_rest {l : List UInt8} {b a i : Nat} (hp : 8 * l.length ≤ a + i) : ∀ d, flip l (part b a (i + d)) = flip l (part b a i)
  | 0 => rfl
  | d + 1 => by rw [← Nat.add_assoc, flip_past (by omega), flip_rest hp d]
end Crc
def flipV (s : ByteArray) (a b : Int) : List UInt8 := if 0 ≤ a ∧ 0 ≤ b ∧ b ≤ 4294967295 then Crc.flip s.data.toList (b.toNat * 2 ^ a.toNat) else s.data.toList

theorem xor_u8 (y : UInt8) (q : Nat) (hq : q < 8) : bits .xor .u8 (y.toNat : Int) ((2 : Int) ^ q % 256) = ((UInt8.ofNat (y.toNat ^^^ 2 ^ q)).toNat : Int) := by
  have hy : y.toNat < 2 ^ 8 := y.toNat_lt
  have h2 : 2 ^ q < 2 ^ 8 := Nat.pow_lt_pow_right (by decide) hq
  have e : (2 : Int) ^ q % 256 = ((2 ^ q : Nat) : Int) := by
    rw [show (2 : Int) ^ q = ((2 ^ q : Nat) : Int) by simp]
    exact Int.emod_eq_of_lt (Int.natCast_nonneg _) (Int.ofNat_lt.2 h2)
  have hx : y.toNat ^^^ 2 ^ q < 2 ^ 8 := Nat.xor_lt_two_pow hy h2
  rw [e, u8_xor_nat _ _ (by omega) (by omega), UInt8.toNat_ofNat', Nat.mod_eq_of_lt hx]

theorem i_Flipped_in (s : ByteArray) (a b : Nat) (hs : s.size ≤ 2147483648) (hb : b ≤ 4294967295) (ha : a ≤ 9223372036854775807) (w : World) : Calls Try.prog 18 #[.string s, .int .i64 (a : Int), .int .i64 (b : Int)] w fun e w' => e = .returned (.string ⟨(Crc.flip s.data.toList (b * 2 ^ a)).toArray⟩) ∧ Below w.heap.size w w' := by
  have HI : Hid (inB (b : Int) 0 4294967295 = true) := inB_t ⟨by omega, by omega⟩
  obtain ⟨cp, W, hconv, hbuf, hbel, hsz⟩ := conv_bytes w s
  obtain ⟨l, hl⟩ : ∃ l, s.data.toList = l := ⟨_, rfl⟩
  have hls : l.length = s.size := by rw [← hl]; simp
  have HLS := Lib.hid hls
  rw [hl] at hbuf ⊢
  obtain ⟨R, hR⟩ : ∃ R, Crc.flip l (b * 2 ^ a) = R := ⟨_, rfl⟩
  have HR : Hid (Crc.flip l (Crc.part b a 32) = R) := by rw [Crc.part_32 (by omega)]; exact hR
  rw [hR]
  have HB : Hid (Buf W w.heap.size (Crc.flip l (Crc.part b a 0))) := by
    have : Crc.part b a 0 = 0 := by unfold Crc.part; simp [Nat.mod_one]
    rw [this, Crc.flip_none]; exact hbuf
  have HSZ := Lib.hid hsz
  clear hl hls hR hbuf hsz
  go_enter Try.func18, Try.ntmps18
  go_wp2_with (go_at_call 48; refine (i_within _ _ _ _).mono ?_; rintro e w' ⟨rfl, rfl⟩; rw [HI.out])
  go_loopw [19] (fun i wr => ∃ k : Nat, k ≤ 32 ∧ i = .int .i64 (k : Int) ∧ Hid (Buf wr w.heap.size (Crc.flip l (Crc.part b a k))) ∧ Below w.heap.size w wr) (fun i _ => 32 - (intOf i).toNat)
  case atStart => exact ⟨0, by omega, rfl, HB, hbel⟩
  case round =>
    obtain ⟨k, hk, rfl, HB, hbelr⟩ := hrel
    by_cases hlt : (k : Int) < 32
    · obtain ⟨V, hV⟩ : ∃ V, b / 2 ^ k % 2 * 2 ^ k = V := ⟨_, rfl⟩
      have hpk : (2 : Nat) ^ k ≤ 2147483648 := by
        have : (2 : Nat) ^ k ≤ 2 ^ 31 := Nat.pow_le_pow_right (by decide) (by omega)
        have e : (2 : Nat) ^ 31 = 2147483648 := by decide
        omega
      have hand : bits .and .i64 (b : Int) (wrap64 ((2 : Int) ^ k)) = (V : Int) := by
        have e : (2 : Int) ^ k = ((2 ^ k : Nat) : Int) := by simp
        have h0 : 0 ≤ ((2 ^ k : Nat) : Int) := Int.natCast_nonneg _
        rw [e]
        clear e
        rw [IntWalk.wrap64_in _ ⟨by omega, by omega⟩, and_i64 _ _ (by omega) (by omega), nat_bit, hV]
      clear hpk
      by_cases ho : b / 2 ^ k % 2 = 1
      · have hV0 : V ≠ 0 := by
          rw [← hV, ho, Nat.one_mul]
          exact Nat.pos_iff_ne_zero.1 (Nat.two_pow_pos k)
        have hVt : ((V : Int) != 0) = true := by rw [bne_iff_ne]; omega
        by_cases hin : (a : Int) < 8 * (s.size : Int) - (k : Int)
        · have hlen : (Crc.flip l (Crc.part b a k)).length = l.length := Crc.flip_length _ _
          have hj : (a + k) / 8 < (Crc.flip l (Crc.part b a k)).length := by rw [hlen, HLS.out]; omega
          have c0 := HB.out.cell _ hj
          have f0 := HB.out.free _ hj
          have hget : (Crc.flip l (Crc.part b a k))[(a + k) / 8] = (Crc.flip l (Crc.part b a k)).getD ((a + k) / 8) 0 := by simp [List.getD, List.getElem?_eq_getElem hj]
          obtain ⟨y, hy⟩ : ∃ y, (Crc.flip l (Crc.part b a k)).getD ((a + k) / 8) 0 = y := ⟨_, rfl⟩
          rw [hget, hy] at c0
          have hjl : (a + k) / 8 < s.size := by rw [← HLS.out, ← hlen]; exact hj
          obtain ⟨j, hjv⟩ : ∃ j, (a + k) / 8 = j := ⟨_, rfl⟩
          obtain ⟨q, hqv⟩ : ∃ q, (a + k) % 8 = q := ⟨_, rfl⟩
          have hq8 : q < 8 := by omega
          rw [hjv] at c0 f0
          have e1 : IntKind.i64.wrap ((a : Int) + (k : Int)) = (a : Int) + (k : Int) := IntWalk.i64_in _ (by omega)
          have e2 : IntKind.i64.wrap (((a : Int) + (k : Int)).tdiv 8) = (j : Int) := by rw [IntWalk.i64_quo _ _ (by omega)]; omega
          have e3 : ((a : Int) + (k : Int)).tmod 8 = (q : Int) := by rw [IntWalk.rem_in _ _ (by omega)]; omega
          have hidx2 : (j : Int) < (s.size : Int) := by omega
          have hidx3 : j < s.size := by omega
          have HSET : Hid ((Crc.flip l (Crc.part b a k)).set j (UInt8.ofNat (y.toNat ^^^ 2 ^ q)) = Crc.flip l (Crc.part b a (k + 1))) := by
            unfold Hid
            rw [Crc.flip_on ho (by rw [HLS.out]; omega), hy, hjv, hqv]
          have HV8 := Lib.hid (xor_u8 y q hq8)
          clear hV hV0 ho hget hj hlen hy hjl hjv hqv
          go_wp2_with fail
          go_still_tail 14, (by kernel_rfl)
          change wpList _ _ _ _ _ wr.drew
          go_wp2_with fail
          go_roundw
          case rel =>
            refine ⟨k + 1, by omega, by go_num, ?_, ?_⟩
            · have := HB.out.set j (UInt8.ofNat (y.toNat ^^^ 2 ^ q)) _ HV8.out
              rw [HSET.out] at this
              exact this.of_heap rfl
            · exact (hbelr.setCell (Nat.le_refl _) _).drew
          case measure => simp [intOf]; omega
        · have HN : Hid (Buf wr w.heap.size (Crc.flip l (Crc.part b a (k + 1)))) := by
            unfold Hid
            rw [Crc.flip_past (by rw [HLS.out]; omega)]
            exact HB.out
          clear hV hV0 ho
          go_wp2_with fail
          go_roundw
          case rel => exact ⟨k + 1, by omega, by go_num, HN, hbelr⟩
          case measure => simp [intOf]; omega
      · have h0 : b / 2 ^ k % 2 = 0 := by omega
        have HN : Hid (Buf wr w.heap.size (Crc.flip l (Crc.part b a (k + 1)))) := by
          unfold Hid
          rw [Crc.part_off h0]
          exact HB.out
        have hV0 : V = 0 := by rw [← hV, h0, Nat.zero_mul]
        have hVt : ((V : Int) != 0) = false := by rw [hV0]; rfl
        clear hV hV0 ho h0
        go_wp2_with fail
        go_roundw
        case rel => exact ⟨k + 1, by omega, by go_num, HN, hbelr⟩
        case measure => simp [intOf]; omega
    · have h32 : k = 32 := by omega
      rw [h32] at HB
      have HB2 : Hid (Buf wr w.heap.size R) := by unfold Hid; rw [← HR.out]; exact HB.out
      have hRl : R.length = s.size := by rw [← HR.out, Crc.flip_length]; exact HLS.out
      have hcv := HB2.out.conv cp s.size hRl.symm
      clear h32 hRl HB
      go_wp2_with fail
      go_ret
      exact ⟨rfl, hbelr⟩

theorem s_Flipped_in (s : ByteArray) (a b : Nat) (hs : s.size ≤ 2147483648) (hb : b ≤ 4294967295) (ha : a ≤ 8 * s.size) (w : World) : Calls Try.prog 17 #[.string s, .int .i64 (a : Int), .int .i64 (b : Int)] w fun e w' => e = .returned (.string ⟨(Crc.flip s.data.toList (b * 2 ^ a)).toArray⟩) ∧ Below w.heap.size w w' := by
  have hle : ¬ (8 : Int) * (s.size : Int) < (a : Int) := by omega
  have HI : Hid (inB (b : Int) 0 4294967295 = true) := inB_t ⟨by omega, by omega⟩
  obtain ⟨cp, W, hconv, hbuf, hbel, hsz⟩ := conv_bytes w s
  obtain ⟨l, hl⟩ : ∃ l, s.data.toList = l := ⟨_, rfl⟩
  have hls : l.length = s.size := by rw [← hl]; simp
  have HLS := Lib.hid hls
  rw [hl] at hbuf ⊢
  obtain ⟨R, hR⟩ : ∃ R, Crc.flip l (b * 2 ^ a) = R := ⟨_, rfl⟩
  have HR : Hid (Crc.flip l (Crc.part b a 32) = R) := by rw [Crc.part_32 (by omega)]; exact hR
  rw [hR]
  have HB : Hid (Buf W w.heap.size (Crc.flip l (Crc.part b a 0))) := by
    have : Crc.part b a 0 = 0 := by unfold Crc.part; simp [Nat.mod_one]
    rw [this, Crc.flip_none]; exact hbuf
  have HSZ := Lib.hid hsz
  clear hl hls hR hbuf hsz
  go_enter Try.func17, Try.ntmps17
  go_wp2_with (go_at_call 47; refine (s_l01In _ _ _ _).mono ?_; rintro e w' ⟨rfl, rfl⟩; rw [HI.out])
  go_loopw [8] (fun i wr => ∃ k : Nat, k ≤ 32 ∧ i = .int .i64 (k : Int) ∧ Hid (Buf wr w.heap.size (Crc.flip l (Crc.part b a k))) ∧ Below w.heap.size w wr) (fun i _ => 32 - (intOf i).toNat)
  case atStart => exact ⟨0, by omega, rfl, HB, hbel⟩
  case round =>
    obtain ⟨k, hk, rfl, HB, hbelr⟩ := hrel
    by_cases hlt : (k : Int) < 32
    · obtain ⟨V, hV⟩ : ∃ V, b / 2 ^ k % 2 = V := ⟨_, rfl⟩
      have hand : bits .and .i64 ((b : Int) / 2 ^ k) 1 = (V : Int) := by
        have e : (b : Int) / 2 ^ k = ((b / 2 ^ k : Nat) : Int) := by simp
        have hle := Nat.div_le_self b (2 ^ k)
        rw [e, and_1 _ (by omega), hV]
      by_cases hin : (a : Int) + (k : Int) < 8 * (s.size : Int)
      · by_cases ho : b / 2 ^ k % 2 = 1
        · have hVt : ((V : Int) == 1) = true := by rw [beq_iff_eq]; omega
          have hlen : (Crc.flip l (Crc.part b a k)).length = l.length := Crc.flip_length _ _
          have hj : (a + k) / 8 < (Crc.flip l (Crc.part b a k)).length := by rw [hlen, HLS.out]; omega
          have c0 := HB.out.cell _ hj
          have f0 := HB.out.free _ hj
          have hget : (Crc.flip l (Crc.part b a k))[(a + k) / 8] = (Crc.flip l (Crc.part b a k)).getD ((a + k) / 8) 0 := by simp [List.getD, List.getElem?_eq_getElem hj]
          obtain ⟨y, hy⟩ : ∃ y, (Crc.flip l (Crc.part b a k)).getD ((a + k) / 8) 0 = y := ⟨_, rfl⟩
          rw [hget, hy] at c0
          have HSET : Hid ((Crc.flip l (Crc.part b a k)).set ((a + k) / 8) (UInt8.ofNat (y.toNat ^^^ 2 ^ ((a + k) % 8))) = Crc.flip l (Crc.part b a (k + 1))) := by
            unfold Hid
            rw [Crc.flip_on ho (by rw [HLS.out]; omega), hy]
          have HV8 := Lib.hid (xor_u8 y ((a + k) % 8) (by omega))
          have hidx0 : (0 : Int) ≤ ((a : Int) + (k : Int)) / 8 := by omega
          have hidx2 : ((a : Int) + (k : Int)) / 8 < (s.size : Int) := by omega
          clear hV ho hget hj hlen hy
          go_wp2_with fail
          go_roundw
          case rel =>
            refine ⟨k + 1, by omega, by go_num, ?_, ?_⟩
            · have := HB.out.set ((a + k) / 8) (UInt8.ofNat (y.toNat ^^^ 2 ^ ((a + k) % 8))) _ HV8.out
              rw [HSET.out] at this
              exact this
            · exact hbelr.setCell (Nat.le_refl _) _
          case measure => simp [intOf]; omega
        · have h0 : b / 2 ^ k % 2 = 0 := by omega
          have HN : Hid (Buf wr w.heap.size (Crc.flip l (Crc.part b a (k + 1)))) := by
            unfold Hid
            rw [Crc.part_off h0]
            exact HB.out
          have hV0 : V = 0 := by rw [← hV, h0]
          have hVt : ((V : Int) == 1) = false := by rw [hV0]; rfl
          clear hV hV0 ho h0
          go_wp2_with fail
          go_roundw
          case rel => exact ⟨k + 1, by omega, by go_num, HN, hbelr⟩
          case measure => simp [intOf]; omega
      · have HB2 : Hid (Buf wr w.heap.size R) := by
          unfold Hid
          have := HR.out
          rw [show 32 = k + (32 - k) by omega, Crc.flip_rest (by rw [HLS.out]; omega)] at this
          rw [← this]
          exact HB.out
        have hRl : R.length = s.size := by rw [← HR.out, Crc.flip_length]; exact HLS.out
        have hcv := HB2.out.conv cp s.size hRl.symm
        clear hV hRl HB
        go_wp2_with fail
        go_ret
        exact ⟨rfl, hbelr⟩
    · have h32 : k = 32 := by omega
      rw [h32] at HB
      have HB2 : Hid (Buf wr w.heap.size R) := by unfold Hid; rw [← HR.out]; exact HB.out
      have hRl : R.length = s.size := by rw [← HR.out, Crc.flip_length]; exact HLS.out
      have hcv := HB2.out.conv cp s.size hRl.symm
      clear h32 hRl HB
      go_wp2_with fail
      go_ret
      exact ⟨rfl, hbelr⟩

theorem flip_far {l : List UInt8} {b a : Nat} (hb : b < 2 ^ 32) (h : 8 * l.length ≤ a) : Crc.flip l (b * 2 ^ a) = l := by
  rw [← Crc.part_32 hb, show 32 = 0 + 32 from rfl, Crc.flip_rest (by omega)]
  have : Crc.part b a 0 = 0 := by unfold Crc.part; simp [Nat.mod_one]
  rw [this, Crc.flip_none]
theorem str_self (s : ByteArray) : (⟨s.data.toList.toArray⟩ : ByteArray) = s := by
  apply ByteArray.ext
  simp
theorem i_Flipped (s : ByteArray) (a b : Int) (hs : s.size ≤ 2147483648) (ha : a ≤ 9223372036854775807) (w : World) : Calls Try.prog 18 #[.string s, .int .i64 a, .int .i64 b] w fun e w' => e = .returned (.string ⟨(flipV s a b).toArray⟩) ∧ Below w.heap.size w w' := by
  by_cases h0 : a < 0
  · rw [show flipV s a b = s.data.toList from if_neg (by omega), str_self]
    go_enter Try.func18, Try.ntmps18
    go_wp2_with fail
    go_ret
    exact ⟨rfl, Below.refl _ _⟩
  · by_cases h1 : 0 ≤ b ∧ b ≤ 4294967295
    · obtain ⟨a, rfl⟩ : ∃ m : Nat, a = (m : Int) := ⟨a.toNat, by omega⟩
      obtain ⟨b, rfl⟩ : ∃ m : Nat, b = (m : Int) := ⟨b.toNat, by omega⟩
      rw [show flipV s a b = Crc.flip s.data.toList (b * 2 ^ a) from if_pos ⟨by omega, h1⟩]
      exact i_Flipped_in s a b hs (by omega) (by omega) w
    · rw [show flipV s a b = s.data.toList from if_neg (fun h => h1 h.2), str_self]
      have HI : Hid (inB b 0 4294967295 = false) := inB_f h1
      clear h1
      go_enter Try.func18, Try.ntmps18
      go_wp2_with (go_at_call 48; refine (i_within _ _ _ _).mono ?_; rintro e w' ⟨rfl, rfl⟩; rw [HI.out])
      go_ret
      exact ⟨rfl, Below.refl _ _⟩
theorem s_Flipped (s : ByteArray) (a b : Int) (hs : s.size ≤ 2147483648) (w : World) : Calls Try.prog 17 #[.string s, .int .i64 a, .int .i64 b] w fun e w' => e = .returned (.string ⟨(flipV s a b).toArray⟩) ∧ Below w.heap.size w w' := by
  by_cases h0 : a < 0
  · rw [show flipV s a b = s.data.toList from if_neg (by omega), str_self]
    go_enter Try.func17, Try.ntmps17
    go_wp2_with fail
    go_ret
    exact ⟨rfl, Below.refl _ _⟩
  · by_cases h1 : 0 ≤ b ∧ b ≤ 4294967295
    · obtain ⟨a, rfl⟩ : ∃ m : Nat, a = (m : Int) := ⟨a.toNat, by omega⟩
      obtain ⟨b, rfl⟩ : ∃ m : Nat, b = (m : Int) := ⟨b.toNat, by omega⟩
      rw [show flipV s a b = Crc.flip s.data.toList (b * 2 ^ a) from if_pos ⟨by omega, h1⟩]
      by_cases h2 : a ≤ 8 * s.size
      · exact s_Flipped_in s a b hs (by omega) h2 w
      · rw [flip_far (by omega) (by simp; omega), str_self]
        have HI : Hid (inB (b : Int) 0 4294967295 = true) := inB_t h1
        have hgt : 8 * (s.size : Int) < (a : Int) := by omega
        clear h1
        go_enter Try.func17, Try.ntmps17
        go_wp2_with (go_at_call 47; refine (s_l01In _ _ _ _).mono ?_; rintro e w' ⟨rfl, rfl⟩; rw [HI.out])
        go_ret
        exact ⟨rfl, Below.refl _ _⟩
    · rw [show flipV s a b = s.data.toList from if_neg (fun h => h1 h.2), str_self]
      have HI : Hid (inB b 0 4294967295 = false) := inB_f h1
      clear h1
      go_enter Try.func17, Try.ntmps17
      go_wp2_with (go_at_call 47; refine (s_l01In _ _ _ _).mono ?_; rintro e w' ⟨rfl, rfl⟩; rw [HI.out])
      go_ret
      exact ⟨rfl, Below.refl _ _⟩

theorem walk_FnExactFlipped (a : ByteArray) (b c : Int) (w : World) (_ha : a.size ≤ maxLen) (hb : (Lit.int .i64 b).wf = true) (_hc : (Lit.int .i64 c).wf = true) : Calls Try.prog 3 #[.string a, .int .i64 b, .int .i64 c] w fun e w' => e = .returned (.bool true) ∧ Below w.heap.size w w' := by
  have bb := bounds_i64 hb
  by_cases hl : (1048576 : Int) < (a.size : Int)
  · go_enter Try.func3, Try.ntmps3
    go_wp2
    go_ret
    exact ⟨rfl, Below.refl _ _⟩
  · go_enter Try.func3, Try.ntmps3
    go_wp2_with (first | (go_at_call 17; refine (s_Flipped _ _ _ (by omega) _).mono ?_; rintro e w1 ⟨rfl, hb1⟩) | (go_at_call 18; refine (i_Flipped _ _ _ (by omega) bb.2 _).mono ?_; rintro e w2 ⟨rfl, hb2⟩))
    go_ret
    exact ⟨rfl, hb1.trans (hb2.mono hb1.size)⟩
end Go.Proofs.Ytfelhmcejkbpfaa
