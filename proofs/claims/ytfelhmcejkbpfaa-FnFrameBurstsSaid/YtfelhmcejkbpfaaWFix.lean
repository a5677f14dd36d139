/-
  FixedText, ReadFixed (both sides) and their laws. No conditions.
-/
import Derived.Test.YtfelhmcejkbpfaaBytes
import Derived.Test.YtfelhmcejkbpfaaEnc
import Derived.Test.YtfelhmcejkbpfaaWInt
import Derived.Test.YtfelhmcejkbpfaaBits
namespace Go.Proofs.Ytfelhmcejkbpfaa
open Go.ChangeShapes Go.WideShapes Go.ChangeAt Go.RowKit

theorem u8_toInt {x : Nat} (h : x < 256) : ((UInt8.ofNat x).toNat : Int) = (x : Int) := by
  rw [UInt8.toNat_ofNat']; omega
def fixOk (n wd : Int) : Bool := decide (0 ≤ n ∧ 1 ≤ wd ∧ wd ≤ 8 ∧ n.toNat < 256 ^ wd.toNat)
def fixText (n wd : Int) : List UInt8 := if 0 ≤ n ∧ 1 ≤ wd ∧ wd ≤ 8 ∧ n.toNat < 256 ^ wd.toNat then Crc.fix wd.toNat n.toNat else []

theorem fix_snoc : ∀ (k n : Nat), Crc.fix (k + 1) n = Crc.fix k n ++ [UInt8.ofNat (n / 256 ^ k % 256)]
  | 0, n => by simp [Crc.fix]
  | k + 1, n => by
    show UInt8.ofNat (n % 256) :: Crc.fix (k + 1) (n / 256) = UInt8.ofNat (n % 256) :: Crc.fix k (n / 256) ++ [_]
    rw [fix_snoc k (n / 256), List.cons_append, Nat.div_div_eq_div_mul, ← Nat.pow_succ']

theorem s_FixedText (n wd : Int) (hn : -9223372036854775808 ≤ n ∧ n ≤ 9223372036854775807) (w : World) : Calls Try.prog 49 #[.int .i64 n, .int .i64 wd] w fun e w' => e = .returned (.string ⟨(fixText n wd).toArray⟩) ∧ Below w.heap.size w w' := by
  by_cases h0 : n < 0
  · rw [show fixText n wd = [] from if_neg (by omega)]
    go_enter Try.func49, Try.ntmps49
    go_wp2_with fail
    go_ret
    exact ⟨rfl, Below.refl _ _⟩
  · by_cases h1 : 1 ≤ wd ∧ wd ≤ 8
    · obtain ⟨n, rfl⟩ : ∃ m : Nat, n = (m : Int) := ⟨n.toNat, by omega⟩
      obtain ⟨q, rfl⟩ : ∃ m : Nat, wd = (m : Int) := ⟨wd.toNat, by omega⟩
      have HI : Hid (inB (q : Int) 1 8 = true) := inB_t h1
      obtain ⟨l, hl⟩ : ∃ l, l = fixText n q := ⟨_, rfl⟩
      rw [← hl]
      have HL := Lib.hid hl
      clear hl
      obtain ⟨h1, h2⟩ := h1
      go_enter Try.func49, Try.ntmps49
      go_wp2_with (go_at_call 47; refine (s_l01In _ _ _ _).mono ?_; rintro e w' ⟨rfl, rfl⟩; rw [HI.out])
      go_loopw [0, 5, 6] (fun x v i wr => ∃ k m : Nat, x = .int .i64 m ∧ m ≤ 9223372036854775807 ∧ i = .int .i64 k ∧ k ≤ q ∧ OwnB wr w.heap.size v (Crc.fix k n) ∧ Hid (m = n / 256 ^ k) ∧ Below w.heap.size w wr) (fun _ _ i _ => q - (intOf i).toNat)
      case atStart => exact ⟨0, n, rfl, by omega, rfl, by omega, OwnB.made w _ 0 #[] (Nat.le_refl _) (by decide) rfl, by unfold Hid; simp, by go_grown⟩
      case round =>
        obtain ⟨k, m, rfl, hm, rfl, hk, hown, HM, hbel⟩ := hrel
        have hsz := hbel.size
        have hlen := Crc.fix_length k n
        by_cases hlt : k < q
        · have HM2 : Hid (m / 256 = n / 256 ^ (k + 1)) := by unfold Hid; rw [HM.out, Nat.div_div_eq_div_mul, ← Nat.pow_succ]
          have HE : Hid (Crc.fix k n ++ [UInt8.ofNat (m % 256)] = Crc.fix (k + 1) n) := by unfold Hid; rw [fix_snoc, ← HM.out]
          have hl2 : (Crc.fix k n).length + 1 ≤ 140737488355328 := by omega
          clear hlen
          go_wp2_with (at_builtin; refine wpList_push rfl hown (UInt8.ofNat (m % 256)) _ _ rfl _ rfl rfl (by have := u8_toInt (x := m % 256) (by omega); omega) hl2 hsz ?_; intro v1 w1 hown1 hb1)
          rw [HE.out] at hown1
          have hbel1 := hbel.trans hb1
          clear hown hb1 hbel
          go_roundw
          case rel => exact ⟨k + 1, m / 256, by go_num, by omega, by go_num, by omega, hown1, HM2, hbel1⟩
          case measure => simp [intOf]; omega
        · obtain rfl : k = q := by omega
          by_cases hz : 0 < m
          · have HE : Hid ([] = l) := by
              unfold Hid
              rw [HL.out]
              refine (if_neg ?_).symm
              have := HM.out
              intro hc
              have h3 : n < 256 ^ k := hc.2.2.2
              rw [Nat.div_eq_of_lt h3] at this
              omega
            clear hlen
            go_wp2_with fail
            go_ret
            exact ⟨ret_str HE.out, hbel⟩
          · have HE : Hid (Crc.fix k n = l) := by
              unfold Hid
              rw [HL.out]
              refine (if_pos ⟨by omega, by omega, by omega, ?_⟩).symm
              have h3 : n < 256 ^ k := by
                have := HM.out
                rcases Nat.lt_or_ge n (256 ^ k) with h | h
                · exact h
                · have := Nat.div_pos h (Nat.pow_pos (by decide)); omega
              exact h3
            have hcv := hown.conv
            clear hlen
            go_wp2_with fail
            go_ret
            exact ⟨ret_str HE.out, hbel⟩
    · rw [show fixText n wd = [] from if_neg (by omega)]
      have HI : Hid (inB wd 1 8 = false) := inB_f h1
      go_enter Try.func49, Try.ntmps49
      go_wp2_with (go_at_call 47; refine (s_l01In _ _ _ _).mono ?_; rintro e w' ⟨rfl, rfl⟩; rw [HI.out])
      go_ret
      exact ⟨rfl, Below.refl _ _⟩

theorem made_bytes (q : Nat) : (madeCells (Value.int .u8 0).cells (q * 1)).toList = bc (List.replicate q 0) := by
  rw [Nat.mul_one, show (Value.int .u8 0).cells = #[.int .u8 0] from rfl, toList_madeCells_one]
  simp [bc]
theorem set_fix {k q n : Nat} (h : k < q) : (bc (Crc.fix k n ++ List.replicate (q - k) 0)).set k (.int .u8 ((n : Int) / 2 ^ (8 * k) % 256)) = bc (Crc.fix (k + 1) n ++ List.replicate (q - (k + 1)) 0) := by
  obtain ⟨m, hm⟩ : ∃ m, q - k = m + 1 := ⟨q - k - 1, by omega⟩
  have e2 : q - (k + 1) = m := by omega
  have hl := Crc.fix_length k n
  have ex : (n : Int) / 2 ^ (8 * k) % 256 = ((UInt8.ofNat (n / 256 ^ k % 256)).toNat : Int) := by
    rw [u8_toInt (by omega), Int.pow_mul]
    simp
  rw [hm, e2, fix_snoc, ex, List.replicate_succ]
  unfold bc
  rw [List.map_append, List.set_append_right _ _ (by simp [hl])]
  simp [hl]
theorem head_fix {k q n : Nat} (h : k < q) : (bc (Crc.fix k n ++ List.replicate (q - k) 0))[k]? = some (.int .u8 0) := by
  obtain ⟨m, hm⟩ : ∃ m, q - k = m + 1 := ⟨q - k - 1, by omega⟩
  have hl := Crc.fix_length k n
  rw [hm, List.replicate_succ]
  simp [bc, hl]
theorem i_FixedText_in (n q : Nat) (hn : n ≤ 9223372036854775807) (h1 : 1 ≤ q) (h2 : q ≤ 8) (hfit : q < 8 → n < 256 ^ q) (w : World) : Calls Try.prog 50 #[.int .i64 (n : Int), .int .i64 (q : Int)] w fun e w' => e = .returned (.string ⟨(Crc.fix q n).toArray⟩) ∧ Below w.heap.size w w' := by
  have HI : Hid (inB (q : Int) 1 8 = true) := inB_t ⟨by omega, by omega⟩
  obtain ⟨i0, hi, hz0, hz1, hz2⟩ := info_parts infoByte
  have hdec : ¬ (q : Int) < 8 ∨ ((q : Int) < 8 ∧ ∃ P : Nat, wrap64 ((2 : Int) ^ (8 * q)) = (P : Int) ∧ (n : Int) < (P : Int)) := by
    by_cases h8 : q < 8
    · refine .inr ⟨by omega, 256 ^ q, ?_, by have := hfit h8; omega⟩
      have e : (2 : Int) ^ (8 * q) = ((256 ^ q : Nat) : Int) := by rw [Int.pow_mul]; simp
      have : (256 : Nat) ^ q ≤ 256 ^ 7 := Nat.pow_le_pow_right (by decide) (by omega)
      have e7 : (256 : Nat) ^ 7 = 72057594037927936 := by decide
      rw [e]
      exact IntWalk.wrap64_in _ ⟨by omega, by omega⟩
    · exact .inl (by omega)
  have h0n : ¬ (n : Int) < 0 := by omega
  clear hfit
  rcases hdec with h8 | ⟨h8, P, hP, hlt⟩
  all_goals
    go_enter Try.func50, Try.ntmps50
    go_wp2_with (first | (go_at_call 48; refine (i_within _ _ _ _).mono ?_; rintro e w' ⟨rfl, rfl⟩; rw [HI.out]) | (with_reducible refine wpList_make_full _ rfl _ _ 30 rfl w.heap.size 5 i0 (.int .u8 0) 1 Try.underlying30 hi hz0 hz1 .i64 .i64 _ _ q rfl rfl rfl rfl (by rw [hz2]; omega) (by unfold maxLen; omega) (Nat.le_refl _) ?_; intro w1 hown1 hgr1; rw [made_bytes] at hown1))
    have hb1 : Below w.heap.size w w1 := (Below.refl _ _).grown hgr1 (Nat.le_refl _) (by intro k hk; cases hk)
    clear hgr1
    go_loopw [29] (fun i wr => ∃ k : Nat, i = .int .i64 k ∧ k ≤ q ∧ wr.ownsRow w.heap.size 5 1 (.slice (some ⟨w.heap.size, 0, none⟩) q q) q (bc (Crc.fix k n ++ List.replicate (q - k) 0)) ∧ Below w.heap.size w wr) (fun i _ => q - (intOf i).toNat)
    case atStart => exact ⟨0, rfl, by omega, hown1, hb1⟩
    case round =>
      obtain ⟨k, rfl, hk, hown, hbel⟩ := hrel
      by_cases hlt : k < q
      · have hc : wr.cell? ⟨w.heap.size, k, none⟩ = some (.int .u8 0) := by
          rw [hown.cellAt k (by omega)]
          exact head_fix hlt
        have hf := hown.frozenAt k
        have hst := hown.stored k (.int .u8 ((n : Int) / 2 ^ (8 * k) % 256))
        rw [set_fix hlt] at hst
        have HST := Lib.hid hst
        clear hst
        go_wp2_with fail
        go_roundw
        case rel => exact ⟨k + 1, by go_num, by omega, HST.out.1, hbel.setCell (Nat.le_refl _) _⟩
        case measure => simp [intOf]; omega
      · obtain rfl : k = q := by omega
        have hown' : OwnB wr w.heap.size (.slice (some ⟨w.heap.size, 0, none⟩) k k) (Crc.fix k n) := by
          unfold OwnB
          rw [Crc.fix_length]
          simpa using hown
        have hcv := hown'.conv
        clear hown hown'
        go_wp2_with fail
        go_ret
        exact ⟨rfl, hbel⟩

theorem i_FixedText (n wd : Int) (hn : -9223372036854775808 ≤ n ∧ n ≤ 9223372036854775807) (w : World) : Calls Try.prog 50 #[.int .i64 n, .int .i64 wd] w fun e w' => e = .returned (.string ⟨(fixText n wd).toArray⟩) ∧ Below w.heap.size w w' := by
  by_cases h0 : n < 0
  · rw [show fixText n wd = [] from if_neg (by omega)]
    go_enter Try.func50, Try.ntmps50
    go_wp2_with fail
    go_ret
    exact ⟨rfl, Below.refl _ _⟩
  · by_cases h1 : 1 ≤ wd ∧ wd ≤ 8
    · obtain ⟨n, rfl⟩ : ∃ m : Nat, n = (m : Int) := ⟨n.toNat, by omega⟩
      obtain ⟨q, rfl⟩ : ∃ m : Nat, wd = (m : Int) := ⟨wd.toNat, by omega⟩
      by_cases hf : n < 256 ^ q
      · rw [show fixText n q = Crc.fix q n from if_pos ⟨by omega, by omega, by omega, hf⟩]
        exact i_FixedText_in n q (by omega) (by omega) (by omega) (fun _ => hf) w
      · rw [show fixText n q = [] from if_neg (fun h => hf h.2.2.2)]
        have h8 : q < 8 := by
          rcases Nat.lt_or_ge q 8 with h | h
          · exact h
          · have : (256 : Nat) ^ 8 ≤ 256 ^ q := Nat.pow_le_pow_right (by decide) h
            have e8 : (256 : Nat) ^ 8 = 18446744073709551616 := by decide
            omega
        obtain ⟨P, hP, hle⟩ : ∃ P : Nat, wrap64 ((2 : Int) ^ (8 * q)) = (P : Int) ∧ (P : Int) ≤ (n : Int) := by
          refine ⟨256 ^ q, ?_, by omega⟩
          have e : (2 : Int) ^ (8 * q) = ((256 ^ q : Nat) : Int) := by rw [Int.pow_mul]; simp
          have : (256 : Nat) ^ q ≤ 256 ^ 7 := Nat.pow_le_pow_right (by decide) (by omega)
          have e7 : (256 : Nat) ^ 7 = 72057594037927936 := by decide
          have hp0 : 0 ≤ ((256 ^ q : Nat) : Int) := Int.natCast_nonneg _
          rw [e]
          clear e
          exact IntWalk.wrap64_in _ ⟨by omega, by omega⟩
        have HI : Hid (inB (q : Int) 1 8 = true) := inB_t h1
        have h8' : (q : Int) < 8 := by omega
        clear hf
        go_enter Try.func50, Try.ntmps50
        go_wp2_with (go_at_call 48; refine (i_within _ _ _ _).mono ?_; rintro e w' ⟨rfl, rfl⟩; rw [HI.out])
        go_ret
        exact ⟨rfl, Below.refl _ _⟩
    · rw [show fixText n wd = [] from if_neg (by omega)]
      have HI : Hid (inB wd 1 8 = false) := inB_f h1
      go_enter Try.func50, Try.ntmps50
      go_wp2_with (go_at_call 48; refine (i_within _ _ _ _).mono ?_; rintro e w' ⟨rfl, rfl⟩; rw [HI.out])
      go_ret
      exact ⟨rfl, Below.refl _ _⟩

end Go.Proofs.Ytfelhmcejkbpfaa
