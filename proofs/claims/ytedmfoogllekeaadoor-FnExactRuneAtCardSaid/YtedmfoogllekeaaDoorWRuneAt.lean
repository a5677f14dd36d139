/-
  RuneAt (both sides) and its law. No conditions beyond the tables' place.
-/
import Derived.Test.YtedmfoogllekeaaDoorRuneLaw
import Derived.Test.YtedmfoogllekeaaDoorShelf
import Derived.Deep.RegionHeld3
import Derived.IntWalk
import Derived.Lib.MapLaws
namespace Go.Proofs.YtedmfoogllekeaaDoor
open Go.ChangeShapes Go.WideShapes Go.ChangeAt Go.RowKit

theorem ret_ra {a b : Int} {r : Int × Int} (h : r = (a, b)) : Ending.returned (.tuple #[.int .i64 a, .int .i64 b]) = .returned (.tuple #[.int .i64 r.1, .int .i64 r.2]) := by rw [h]
theorem bs_ne {a b : ByteArray} (h : a ≠ b) : (a.toList == b.toList) = false := by
  rw [beq_eq_false_iff_ne, ByteArray.toList_eq, ByteArray.toList_eq]
  intro he
  exact h (ByteArray.ext (Array.toList_inj.1 he))
theorem ra_in {s : ByteArray} {p : Nat} (hp : p < s.size) : raV s (p : Int) = match raD s p with
    | none => (0, -1)
    | some d => ((d.1 : Int), (p : Int) + (d.2 : Int)) := by
  unfold raV
  rw [if_neg (by omega)]
  rfl
theorem ra_none {s : ByteArray} {p : Nat} (hp : p < s.size) (h : raD s p = none) : raV s (p : Int) = (0, -1) := by rw [ra_in hp, h]
theorem ra_some {s : ByteArray} {p n k : Nat} (hp : p < s.size) (h : raD s p = some (n, k)) : raV s (p : Int) = ((n : Int), (p : Int) + (k : Int)) := by rw [ra_in hp, h]
def pv (s : ByteArray) (p n0 : Nat) : Nat → Nat
  | 0 => n0
  | k + 1 => 64 * pv s p n0 k + (bAt s (p + (k + 1)) - 128)

theorem i_RuneAt (s : ByteArray) (a : Int) (hs : s.size ≤ 2147483648) (ha : -9223372036854775808 ≤ a ∧ a ≤ 9223372036854775807) (w : World) (hT : Lib.Utf8Tabs 1 2 w) : Calls Tryd.prog 6 #[.string s, .int .i64 a] w fun e w' => e = .returned (.tuple #[.int .i64 (raV s a).1, .int .i64 (raV s a).2]) ∧ Below w.heap.size w w' := by
  by_cases h0 : a < 0
  · have HR : Hid (raV s a = (0, -1)) := if_pos (.inl h0)
    go_enter Tryd.func6, Tryd.ntmps6
    go_wp2_with fail
    go_ret2
    exact ⟨ret_ra HR.out, Below.refl _ _⟩
  · by_cases h1 : (s.size : Int) ≤ a
    · have HR : Hid (raV s a = (0, -1)) := if_pos (.inr h1)
      go_enter Tryd.func6, Tryd.ntmps6
      go_wp2_with fail
      go_ret2
      exact ⟨ret_ra HR.out, Below.refl _ _⟩
    · obtain ⟨p, rfl⟩ : ∃ p : Nat, a = (p : Int) := ⟨a.toNat, by omega⟩
      have hp : p < s.size := by omega
      have HC0 := Tryd.utf8_DecodeRuneInString (s.extract p s.size) w hT
      have hd : Lib.decodeGo (s.extract p s.size) = Utf8.decode s p := by
        unfold Lib.decodeGo
        have hl : (s.extract p s.size).data.toList = s.data.toList.drop p := Lib.extract_to_end s p
        have hsz : (s.extract p s.size).size = s.size - p := by
          have e : (s.extract p s.size).size = (s.extract p s.size).data.toList.length := by simp
          rw [e, hl, List.length_drop]
          simp
        rw [if_neg (by omega), Lib.decode_N, Lib.decode_N, hl]
        simp
      rw [hd] at HC0
      obtain ⟨c, k, hck⟩ : ∃ c k, Utf8.decode s p = (c, k) := ⟨_, _, rfl⟩
      have hcb : c ≤ 1114111 ∧ k ≤ 4 := by
        have := dec_N s p
        rw [hck] at this
        rcases Lib.decodeN_shape (s.size - p) (bAt s p) (bAt s (p + 1)) (bAt s (p + 2)) (bAt s (p + 3)) with ⟨h, e⟩ | ⟨h, _, _, _, e⟩ | ⟨h, _, _, _, _, _, e⟩ | ⟨h, _, _, _, _, _, h2, e⟩ | e
        all_goals
          rw [e] at this
          simp only [Prod.mk.injEq] at this
          omega
      obtain ⟨hcb1, hcb2⟩ := hcb
      rw [hck] at HC0
      have hR : raV s (p : Int) = if c = 65533 ∧ k ≤ 1 then (0, -1) else ((c : Int), (p : Int) + (k : Int)) := by
        rw [ra_in hp]
        unfold raD
        rw [hck]
        by_cases h : c = 65533 ∧ k ≤ 1
        · rw [if_pos h, if_pos h]
        · rw [if_neg h, if_neg h]
      obtain ⟨E, hE⟩ : ∃ E, s.extract p s.size = E := ⟨_, rfl⟩
      rw [hE] at HC0
      have HE := Lib.hid hE
      have HC := Lib.hid HC0
      obtain ⟨R, hRR⟩ : ∃ R, raV s (p : Int) = R := ⟨_, rfl⟩
      rw [hRR] at hR ⊢
      obtain ⟨ci, hci⟩ : ∃ ci : Int, (c : Int) = ci := ⟨_, rfl⟩
      obtain ⟨ki, hki⟩ : ∃ ki : Int, (k : Int) = ki := ⟨_, rfl⟩
      have i0 : 0 ≤ ci := by omega
      have i1 : ci ≤ 1114111 := by omega
      have i2 : 0 ≤ ki := by omega
      have i3 : ki ≤ 4 := by omega
      rw [hci, hki] at HC hR
      clear HC0 hd hck hE hRR hT hcb1 hcb2
      by_cases hbad : ci = 65533
      · subst hbad
        by_cases hk1 : ki ≤ 1
        · have HU : Hid (R = (0, -1)) := by rw [hR]; exact if_pos ⟨by omega, by omega⟩
          clear hR hci hki
          go_enter Tryd.func6, Tryd.ntmps6
          go_wp2_with fail
          rw [HE.out]
          refine HC.out.mono ?_
          rintro e w1 ⟨rfl, hb1⟩
          go_wp2_with fail
          go_ret2
          exact ⟨ret_ra HU.out, hb1⟩
        · have HU : Hid (R = (65533, (p : Int) + ki)) := by rw [hR]; exact if_neg (by omega)
          clear hR hci hki
          go_enter Tryd.func6, Tryd.ntmps6
          go_wp2_with fail
          rw [HE.out]
          refine HC.out.mono ?_
          rintro e w1 ⟨rfl, hb1⟩
          go_wp2_with fail
          go_ret2
          exact ⟨ret_ra HU.out, hb1⟩
      · have HU : Hid (R = (ci, (p : Int) + ki)) := by rw [hR]; exact if_neg (by omega)
        have hbe : (ci == 65533) = false := beq_eq_false_iff_ne.2 hbad
        clear hR hci hki hbad
        go_enter Tryd.func6, Tryd.ntmps6
        go_wp2_with fail
        rw [HE.out]
        refine HC.out.mono ?_
        rintro e w1 ⟨rfl, hb1⟩
        go_wp2_with fail
        go_ret2
        exact ⟨ret_ra HU.out, hb1⟩

theorem below_dr {w w1 : World} (h : Below w.drew.heap.size w.drew w1) : Below w.heap.size w w1 := (Below.refl w.heap.size w).drew.trans h

theorem s_RuneAt_2 (s : ByteArray) (p : Nat) (hs : s.size ≤ 2147483648) (hp : p < s.size) (h : 192 ≤ bAt s p ∧ bAt s p < 224) (w : World) : Calls Tryd.prog 5 #[.string s, .int .i64 (p : Int)] w fun e w' => e = .returned (.tuple #[.int .i64 (raV s (p : Int)).1, .int .i64 (raV s (p : Int)).2]) ∧ Below w.heap.size w w' := by
  obtain ⟨R, hR⟩ : ∃ R, raV s (p : Int) = R := ⟨_, rfl⟩
  have hno := fun (hh : raD s p = none) => hR.symm.trans (ra_none hp hh)
  have hyes := fun (n k : Nat) (hh : raD s p = some (n, k)) => hR.symm.trans (ra_some hp hh)
  rw [hR]
  have HN := Lib.hid hno
  have HY := Lib.hid hyes
  clear hR hno hyes
  have H := Lib.hid h
  have HI : Hid (inB (p : Int) 0 ((s.size : Int) - 1) = true) := inB_t ⟨by omega, by omega⟩
  obtain ⟨z, hz⟩ : ∃ z : Int, ((s[p]'hp).toNat : Int) = z := ⟨_, rfl⟩
  have hzb : z = (bAt s p : Int) := by rw [← hz, bAt_get s p hp]
  have hz0 : 192 ≤ z := by omega
  have hz1 : z < 224 := by omega
  have hz2 : z ≤ 255 := by have := bAt_lt s p; omega
  have hp0 : (0 : Int) ≤ (p : Int) := by omega
  have hp1 : (p : Int) < (s.size : Int) := by omega
  have HZ := Lib.hid hzb
  clear h hzb
  by_cases hend : (s.size : Int) < (p : Int) + 2
  · have HU := Lib.hid (HN.out (bad_2 H.out (.inl (by omega))))
    go_enter Tryd.func5, Tryd.ntmps5
    go_wp2_with (go_at_call 12; refine (s_l01In _ _ _ _).mono ?_; rintro e w' ⟨rfl, rfl⟩; rw [HI.out])
    go_ret2
    exact ⟨ret_ra HU.out, Below.refl _ _⟩
  · have hsz : p + 2 ≤ s.size := by omega
    go_enter Tryd.func5, Tryd.ntmps5
    go_wp2_with (go_at_call 12; refine (s_l01In _ _ _ _).mono ?_; rintro e w' ⟨rfl, rfl⟩; rw [HI.out])
    go_loop [8, 9] (fun n i => ∃ (k : Nat) (m : Int), i = .int .i64 ((k : Int) + 1) ∧ k + 1 ≤ 2 ∧ n = .int .i64 m ∧ 0 ≤ m ∧ m ≤ 20000000 ∧ Hid (m < (64 : Int) ^ (k + 1)) ∧ Hid (m = (pv s p (bAt s p - 192) k : Int)) ∧ Hid (∀ j, j < k → 128 ≤ bAt s (p + (j + 1)) ∧ bAt s (p + (j + 1)) ≤ 191)) (fun _ i => 2 - (intOf i).toNat)
    case atStart => exact ⟨0, z - 192, rfl, by omega, rfl, by omega, by omega, by unfold Hid; omega, by have := HZ.out; unfold Hid pv; omega, fun j hj => absurd hj (by omega)⟩
    case round =>
      obtain ⟨k, m, rfl, hk, rfl, hm0, hm1, HP, HM, HK⟩ := hrel
      by_cases hlt : k + 1 < 2
      · have hlt' : (k : Int) + 1 < 2 := by omega
        have hix : p + (k + 1) < s.size := by omega
        have hix' : (p : Int) + ((k : Int) + 1) < (s.size : Int) := by omega
        obtain ⟨x, hx⟩ : ∃ x : Int, ((s[p + (k + 1)]'hix).toNat : Int) = x := ⟨_, rfl⟩
        have hxb : x = (bAt s (p + (k + 1)) : Int) := by rw [← hx, bAt_get s _ hix]
        have hx0 : 0 ≤ x := by omega
        have hx1 : x ≤ 255 := by have := bAt_lt s (p + (k + 1)); omega
        by_cases hin : 128 ≤ x ∧ x ≤ 191
        · have HJ : Hid (inB x 128 191 = true) := inB_t hin
          have hpow : m < (64 : Int) ^ (k + 1) := HP.out
          have HP2 : Hid (64 * m + x - 128 < (64 : Int) ^ (k + 1 + 1)) := by unfold Hid; rw [Int.pow_succ]; omega
          have hk64 : (64 : Int) ^ (k + 1 + 1) ≤ 16777216 := by
            have h2 := Nat.pow_le_pow_right (n := 64) (by omega) (show k + 1 + 1 ≤ 4 by omega)
            have e : ((64 ^ (k + 1 + 1) : Nat) : Int) = (64 : Int) ^ (k + 1 + 1) := by simp
            rw [← e]
            exact Int.ofNat_le.2 h2
          have hm64 : 64 * m + x - 128 ≤ 16777216 := by have := HP2.out; omega
          have HM2 : Hid (64 * m + x - 128 = (pv s p (bAt s p - 192) (k + 1) : Int)) := by have := HM.out; unfold Hid pv; omega
          have HK2 : Hid (∀ j, j < k + 1 → 128 ≤ bAt s (p + (j + 1)) ∧ bAt s (p + (j + 1)) ≤ 191) := fun j hj => by
            rcases Nat.lt_succ_iff_lt_or_eq.1 hj with h | rfl
            · exact HK.out j h
            · omega
          obtain ⟨hin0, hin1⟩ := hin
          clear hxb hpow hk64
          go_wp2_with (go_at_call 12; refine (s_l01In _ _ _ _).mono ?_; rintro e w' ⟨rfl, rfl⟩; rw [HJ.out])
          go_round
          case rel => exact ⟨k + 1, _, by go_num, by omega, rfl, by omega, by omega, HP2, HM2, HK2⟩
          case measure => simp [intOf]; omega
        · have HJ : Hid (inB x 128 191 = false) := inB_f hin
          have HU : Hid (R = (0, -1)) := HN.out (bad_2 H.out (by
            have hk' : k = 0 := by omega
            rcases hk' with rfl
            all_goals (try simp only [Nat.zero_add] at hxb)
            all_goals omega))
          clear hxb hin
          go_wp2_with (go_at_call 12; refine (s_l01In _ _ _ _).mono ?_; rintro e w' ⟨rfl, rfl⟩; rw [HJ.out])
          go_ret2
          exact ⟨ret_ra HU.out, Below.refl _ _⟩
      · obtain rfl : k = 1 := by omega
        have hlt' : ¬ ((1 : Nat) : Int) + 1 < 2 := by omega
        have hc0 := HK.out 0 (by omega)
        have hpvn : pv s p (bAt s p - 192) 1 = n2 (bAt s p) (bAt s (p + 1)) := rfl
        have hM := HM.out
        rw [hpvn] at hM
        obtain ⟨E, hE⟩ : ∃ E, s.extract p (p + 2) = E := ⟨_, rfl⟩
        obtain ⟨T, hT⟩ : ∃ T, runeT m = T := ⟨_, rfl⟩
        have HT : Hid (∀ w, Calls Tryd.prog 13 #[.int .i64 m] w fun e w' => e = .returned (.string T) ∧ Below w.heap.size w w') := fun w => by rw [← hT]; exact s_RuneText m w
        have e1 : IntKind.i64.wrap ((p : Int) + 2) = (p : Int) + 2 := IntWalk.i64_in _ ⟨by omega, by omega⟩
        have hsl : ∀ w, (Instr.slice 9 (.string s) (some (.int .i64 (p : Int))) (some (.int .i64 ((p : Int) + 2))) none).run Tryd.prog w = .ok (.string E) w := fun w => by
          have h3 := run_slice_string (P := Tryd.prog) (w := w) 9 s .i64 .i64 (p : Int) ((p : Int) + 2) Tryd.underlying9 (by omega) (by omega) (by omega)
          rw [h3, ← hE]
          congr 2
        have hAt := at_2 hsz H.out hc0
        rw [← hM, hT, hE] at hAt
        rcases hAt with ⟨hA, hB⟩ | ⟨hA, hB⟩
        · have HU : Hid (R = (m, (p : Int) + 2)) := by rw [HY.out _ _ hA, ← hM]; rfl
          clear hA hM hpvn hE hT
          subst hB
          go_wp2_with fail
          go_region_held3 (fun _ : World => True) (exact trivial) ((go_at_call 13; refine (HT.out _).mono ?_; rintro e w1 ⟨rfl, hb1⟩))
          all_goals
            go_wp2_with fail
            go_ret2
            exact ⟨ret_ra HU.out, by first | exact hb1 | exact below_dr hb1 | exact hb1.drew | exact (below_dr hb1).drew⟩
        · have HU := Lib.hid (HN.out hA)
          have hne := bs_ne hB
          clear hA hM hpvn hE hT hB
          go_wp2_with fail
          go_region_held3 (fun _ : World => True) (exact trivial) ((go_at_call 13; refine (HT.out _).mono ?_; rintro e w1 ⟨rfl, hb1⟩))
          all_goals
            go_wp2_with fail
            go_ret2
            exact ⟨ret_ra HU.out, by first | exact hb1 | exact below_dr hb1 | exact hb1.drew | exact (below_dr hb1).drew⟩

theorem s_RuneAt_3 (s : ByteArray) (p : Nat) (hs : s.size ≤ 2147483648) (hp : p < s.size) (h : 224 ≤ bAt s p ∧ bAt s p < 240) (w : World) : Calls Tryd.prog 5 #[.string s, .int .i64 (p : Int)] w fun e w' => e = .returned (.tuple #[.int .i64 (raV s (p : Int)).1, .int .i64 (raV s (p : Int)).2]) ∧ Below w.heap.size w w' := by
  obtain ⟨R, hR⟩ : ∃ R, raV s (p : Int) = R := ⟨_, rfl⟩
  have hno := fun (hh : raD s p = none) => hR.symm.trans (ra_none hp hh)
  have hyes := fun (n k : Nat) (hh : raD s p = some (n, k)) => hR.symm.trans (ra_some hp hh)
  rw [hR]
  have HN := Lib.hid hno
  have HY := Lib.hid hyes
  clear hR hno hyes
  have H := Lib.hid h
  have HI : Hid (inB (p : Int) 0 ((s.size : Int) - 1) = true) := inB_t ⟨by omega, by omega⟩
  obtain ⟨z, hz⟩ : ∃ z : Int, ((s[p]'hp).toNat : Int) = z := ⟨_, rfl⟩
  have hzb : z = (bAt s p : Int) := by rw [← hz, bAt_get s p hp]
  have hz0 : 224 ≤ z := by omega
  have hz1 : z < 240 := by omega
  have hz2 : z ≤ 255 := by have := bAt_lt s p; omega
  have hp0 : (0 : Int) ≤ (p : Int) := by omega
  have hp1 : (p : Int) < (s.size : Int) := by omega
  have HZ := Lib.hid hzb
  clear h hzb
  by_cases hend : (s.size : Int) < (p : Int) + 3
  · have HU := Lib.hid (HN.out (bad_3 H.out (.inl (by omega))))
    go_enter Tryd.func5, Tryd.ntmps5
    go_wp2_with (go_at_call 12; refine (s_l01In _ _ _ _).mono ?_; rintro e w' ⟨rfl, rfl⟩; rw [HI.out])
    go_ret2
    exact ⟨ret_ra HU.out, Below.refl _ _⟩
  · have hsz : p + 3 ≤ s.size := by omega
    go_enter Tryd.func5, Tryd.ntmps5
    go_wp2_with (go_at_call 12; refine (s_l01In _ _ _ _).mono ?_; rintro e w' ⟨rfl, rfl⟩; rw [HI.out])
    go_loop [8, 9] (fun n i => ∃ (k : Nat) (m : Int), i = .int .i64 ((k : Int) + 1) ∧ k + 1 ≤ 3 ∧ n = .int .i64 m ∧ 0 ≤ m ∧ m ≤ 20000000 ∧ Hid (m < (64 : Int) ^ (k + 1)) ∧ Hid (m = (pv s p (bAt s p - 224) k : Int)) ∧ Hid (∀ j, j < k → 128 ≤ bAt s (p + (j + 1)) ∧ bAt s (p + (j + 1)) ≤ 191)) (fun _ i => 3 - (intOf i).toNat)
    case atStart => exact ⟨0, z - 224, rfl, by omega, rfl, by omega, by omega, by unfold Hid; omega, by have := HZ.out; unfold Hid pv; omega, fun j hj => absurd hj (by omega)⟩
    case round =>
      obtain ⟨k, m, rfl, hk, rfl, hm0, hm1, HP, HM, HK⟩ := hrel
      by_cases hlt : k + 1 < 3
      · have hlt' : (k : Int) + 1 < 3 := by omega
        have hix : p + (k + 1) < s.size := by omega
        have hix' : (p : Int) + ((k : Int) + 1) < (s.size : Int) := by omega
        obtain ⟨x, hx⟩ : ∃ x : Int, ((s[p + (k + 1)]'hix).toNat : Int) = x := ⟨_, rfl⟩
        have hxb : x = (bAt s (p + (k + 1)) : Int) := by rw [← hx, bAt_get s _ hix]
        have hx0 : 0 ≤ x := by omega
        have hx1 : x ≤ 255 := by have := bAt_lt s (p + (k + 1)); omega
        by_cases hin : 128 ≤ x ∧ x ≤ 191
        · have HJ : Hid (inB x 128 191 = true) := inB_t hin
          have hpow : m < (64 : Int) ^ (k + 1) := HP.out
          have HP2 : Hid (64 * m + x - 128 < (64 : Int) ^ (k + 1 + 1)) := by unfold Hid; rw [Int.pow_succ]; omega
          have hk64 : (64 : Int) ^ (k + 1 + 1) ≤ 16777216 := by
            have h2 := Nat.pow_le_pow_right (n := 64) (by omega) (show k + 1 + 1 ≤ 4 by omega)
            have e : ((64 ^ (k + 1 + 1) : Nat) : Int) = (64 : Int) ^ (k + 1 + 1) := by simp
            rw [← e]
            exact Int.ofNat_le.2 h2
          have hm64 : 64 * m + x - 128 ≤ 16777216 := by have := HP2.out; omega
          have HM2 : Hid (64 * m + x - 128 = (pv s p (bAt s p - 224) (k + 1) : Int)) := by have := HM.out; unfold Hid pv; omega
          have HK2 : Hid (∀ j, j < k + 1 → 128 ≤ bAt s (p + (j + 1)) ∧ bAt s (p + (j + 1)) ≤ 191) := fun j hj => by
            rcases Nat.lt_succ_iff_lt_or_eq.1 hj with h | rfl
            · exact HK.out j h
            · omega
          obtain ⟨hin0, hin1⟩ := hin
          clear hxb hpow hk64
          go_wp2_with (go_at_call 12; refine (s_l01In _ _ _ _).mono ?_; rintro e w' ⟨rfl, rfl⟩; rw [HJ.out])
          go_round
          case rel => exact ⟨k + 1, _, by go_num, by omega, rfl, by omega, by omega, HP2, HM2, HK2⟩
          case measure => simp [intOf]; omega
        · have HJ : Hid (inB x 128 191 = false) := inB_f hin
          have HU : Hid (R = (0, -1)) := HN.out (bad_3 H.out (by
            have hk' : k = 0 ∨ k = 1 := by omega
            rcases hk' with rfl | rfl
            all_goals (try simp only [Nat.reduceAdd] at hxb)
            all_goals omega))
          clear hxb hin
          go_wp2_with (go_at_call 12; refine (s_l01In _ _ _ _).mono ?_; rintro e w' ⟨rfl, rfl⟩; rw [HJ.out])
          go_ret2
          exact ⟨ret_ra HU.out, Below.refl _ _⟩
      · obtain rfl : k = 2 := by omega
        have hlt' : ¬ ((2 : Nat) : Int) + 1 < 3 := by omega
        have hc0 := HK.out 0 (by omega)
        have hc1 := HK.out 1 (by omega)
        have hpvn : pv s p (bAt s p - 224) 2 = n3 (bAt s p) (bAt s (p + 1)) (bAt s (p + 2)) := rfl
        have hM := HM.out
        rw [hpvn] at hM
        obtain ⟨E, hE⟩ : ∃ E, s.extract p (p + 3) = E := ⟨_, rfl⟩
        obtain ⟨T, hT⟩ : ∃ T, runeT m = T := ⟨_, rfl⟩
        have HT : Hid (∀ w, Calls Tryd.prog 13 #[.int .i64 m] w fun e w' => e = .returned (.string T) ∧ Below w.heap.size w w') := fun w => by rw [← hT]; exact s_RuneText m w
        have e1 : IntKind.i64.wrap ((p : Int) + 3) = (p : Int) + 3 := IntWalk.i64_in _ ⟨by omega, by omega⟩
        have hsl : ∀ w, (Instr.slice 9 (.string s) (some (.int .i64 (p : Int))) (some (.int .i64 ((p : Int) + 3))) none).run Tryd.prog w = .ok (.string E) w := fun w => by
          have h3 := run_slice_string (P := Tryd.prog) (w := w) 9 s .i64 .i64 (p : Int) ((p : Int) + 3) Tryd.underlying9 (by omega) (by omega) (by omega)
          rw [h3, ← hE]
          congr 2
        have hAt := at_3 hsz H.out hc0 hc1
        rw [← hM, hT, hE] at hAt
        rcases hAt with ⟨hA, hB⟩ | ⟨hA, hB⟩
        · have HU : Hid (R = (m, (p : Int) + 3)) := by rw [HY.out _ _ hA, ← hM]; rfl
          clear hA hM hpvn hE hT
          subst hB
          go_wp2_with fail
          go_region_held3 (fun _ : World => True) (exact trivial) ((go_at_call 13; refine (HT.out _).mono ?_; rintro e w1 ⟨rfl, hb1⟩))
          all_goals
            go_wp2_with fail
            go_ret2
            exact ⟨ret_ra HU.out, by first | exact hb1 | exact below_dr hb1 | exact hb1.drew | exact (below_dr hb1).drew⟩
        · have HU := Lib.hid (HN.out hA)
          have hne := bs_ne hB
          clear hA hM hpvn hE hT hB
          go_wp2_with fail
          go_region_held3 (fun _ : World => True) (exact trivial) ((go_at_call 13; refine (HT.out _).mono ?_; rintro e w1 ⟨rfl, hb1⟩))
          all_goals
            go_wp2_with fail
            go_ret2
            exact ⟨ret_ra HU.out, by first | exact hb1 | exact below_dr hb1 | exact hb1.drew | exact (below_dr hb1).drew⟩

theorem s_RuneAt_4 (s : ByteArray) (p : Nat) (hs : s.size ≤ 2147483648) (hp : p < s.size) (h : 240 ≤ bAt s p) (w : World) : Calls Tryd.prog 5 #[.string s, .int .i64 (p : Int)] w fun e w' => e = .returned (.tuple #[.int .i64 (raV s (p : Int)).1, .int .i64 (raV s (p : Int)).2]) ∧ Below w.heap.size w w' := by
  obtain ⟨R, hR⟩ : ∃ R, raV s (p : Int) = R := ⟨_, rfl⟩
  have hno := fun (hh : raD s p = none) => hR.symm.trans (ra_none hp hh)
  have hyes := fun (n k : Nat) (hh : raD s p = some (n, k)) => hR.symm.trans (ra_some hp hh)
  rw [hR]
  have HN := Lib.hid hno
  have HY := Lib.hid hyes
  clear hR hno hyes
  have H := Lib.hid h
  have HI : Hid (inB (p : Int) 0 ((s.size : Int) - 1) = true) := inB_t ⟨by omega, by omega⟩
  obtain ⟨z, hz⟩ : ∃ z : Int, ((s[p]'hp).toNat : Int) = z := ⟨_, rfl⟩
  have hzb : z = (bAt s p : Int) := by rw [← hz, bAt_get s p hp]
  have hz0 : 240 ≤ z := by omega
  have hz2 : z ≤ 255 := by have := bAt_lt s p; omega
  have hp0 : (0 : Int) ≤ (p : Int) := by omega
  have hp1 : (p : Int) < (s.size : Int) := by omega
  have HZ := Lib.hid hzb
  clear h hzb
  by_cases hend : (s.size : Int) < (p : Int) + 4
  · have HU := Lib.hid (HN.out (bad_4 H.out (.inl (by omega))))
    go_enter Tryd.func5, Tryd.ntmps5
    go_wp2_with (go_at_call 12; refine (s_l01In _ _ _ _).mono ?_; rintro e w' ⟨rfl, rfl⟩; rw [HI.out])
    go_ret2
    exact ⟨ret_ra HU.out, Below.refl _ _⟩
  · have hsz : p + 4 ≤ s.size := by omega
    go_enter Tryd.func5, Tryd.ntmps5
    go_wp2_with (go_at_call 12; refine (s_l01In _ _ _ _).mono ?_; rintro e w' ⟨rfl, rfl⟩; rw [HI.out])
    go_loop [8, 9] (fun n i => ∃ (k : Nat) (m : Int), i = .int .i64 ((k : Int) + 1) ∧ k + 1 ≤ 4 ∧ n = .int .i64 m ∧ 0 ≤ m ∧ m ≤ 20000000 ∧ Hid (m < (64 : Int) ^ (k + 1)) ∧ Hid (m = (pv s p (bAt s p - 240) k : Int)) ∧ Hid (∀ j, j < k → 128 ≤ bAt s (p + (j + 1)) ∧ bAt s (p + (j + 1)) ≤ 191)) (fun _ i => 4 - (intOf i).toNat)
    case atStart => exact ⟨0, z - 240, rfl, by omega, rfl, by omega, by omega, by unfold Hid; omega, by have := HZ.out; unfold Hid pv; omega, fun j hj => absurd hj (by omega)⟩
    case round =>
      obtain ⟨k, m, rfl, hk, rfl, hm0, hm1, HP, HM, HK⟩ := hrel
      by_cases hlt : k + 1 < 4
      · have hlt' : (k : Int) + 1 < 4 := by omega
        have hix : p + (k + 1) < s.size := by omega
        have hix' : (p : Int) + ((k : Int) + 1) < (s.size : Int) := by omega
        obtain ⟨x, hx⟩ : ∃ x : Int, ((s[p + (k + 1)]'hix).toNat : Int) = x := ⟨_, rfl⟩
        have hxb : x = (bAt s (p + (k + 1)) : Int) := by rw [← hx, bAt_get s _ hix]
        have hx0 : 0 ≤ x := by omega
        have hx1 : x ≤ 255 := by have := bAt_lt s (p + (k + 1)); omega
        by_cases hin : 128 ≤ x ∧ x ≤ 191
        · have HJ : Hid (inB x 128 191 = true) := inB_t hin
          have hpow : m < (64 : Int) ^ (k + 1) := HP.out
          have HP2 : Hid (64 * m + x - 128 < (64 : Int) ^ (k + 1 + 1)) := by unfold Hid; rw [Int.pow_succ]; omega
          have hk64 : (64 : Int) ^ (k + 1 + 1) ≤ 16777216 := by
            have h2 := Nat.pow_le_pow_right (n := 64) (by omega) (show k + 1 + 1 ≤ 4 by omega)
            have e : ((64 ^ (k + 1 + 1) : Nat) : Int) = (64 : Int) ^ (k + 1 + 1) := by simp
            rw [← e]
            exact Int.ofNat_le.2 h2
          have hm64 : 64 * m + x - 128 ≤ 16777216 := by have := HP2.out; omega
          have HM2 : Hid (64 * m + x - 128 = (pv s p (bAt s p - 240) (k + 1) : Int)) := by have := HM.out; unfold Hid pv; omega
          have HK2 : Hid (∀ j, j < k + 1 → 128 ≤ bAt s (p + (j + 1)) ∧ bAt s (p + (j + 1)) ≤ 191) := fun j hj => by
            rcases Nat.lt_succ_iff_lt_or_eq.1 hj with h | rfl
            · exact HK.out j h
            · omega
          obtain ⟨hin0, hin1⟩ := hin
          clear hxb hpow hk64
          go_wp2_with (go_at_call 12; refine (s_l01In _ _ _ _).mono ?_; rintro e w' ⟨rfl, rfl⟩; rw [HJ.out])
          go_round
          case rel => exact ⟨k + 1, _, by go_num, by omega, rfl, by omega, by omega, HP2, HM2, HK2⟩
          case measure => simp [intOf]; omega
        · have HJ : Hid (inB x 128 191 = false) := inB_f hin
          have HU : Hid (R = (0, -1)) := HN.out (bad_4 H.out (by
            have hk' : k = 0 ∨ k = 1 ∨ k = 2 := by omega
            rcases hk' with rfl | rfl | rfl
            all_goals (try simp only [Nat.reduceAdd] at hxb)
            all_goals omega))
          clear hxb hin
          go_wp2_with (go_at_call 12; refine (s_l01In _ _ _ _).mono ?_; rintro e w' ⟨rfl, rfl⟩; rw [HJ.out])
          go_ret2
          exact ⟨ret_ra HU.out, Below.refl _ _⟩
      · obtain rfl : k = 3 := by omega
        have hlt' : ¬ ((3 : Nat) : Int) + 1 < 4 := by omega
        have hc0 := HK.out 0 (by omega)
        have hc1 := HK.out 1 (by omega)
        have hc2 := HK.out 2 (by omega)
        have hpvn : pv s p (bAt s p - 240) 3 = n4 (bAt s p) (bAt s (p + 1)) (bAt s (p + 2)) (bAt s (p + 3)) := rfl
        have hM := HM.out
        rw [hpvn] at hM
        obtain ⟨E, hE⟩ : ∃ E, s.extract p (p + 4) = E := ⟨_, rfl⟩
        obtain ⟨T, hT⟩ : ∃ T, runeT m = T := ⟨_, rfl⟩
        have HT : Hid (∀ w, Calls Tryd.prog 13 #[.int .i64 m] w fun e w' => e = .returned (.string T) ∧ Below w.heap.size w w') := fun w => by rw [← hT]; exact s_RuneText m w
        have e1 : IntKind.i64.wrap ((p : Int) + 4) = (p : Int) + 4 := IntWalk.i64_in _ ⟨by omega, by omega⟩
        have hsl : ∀ w, (Instr.slice 9 (.string s) (some (.int .i64 (p : Int))) (some (.int .i64 ((p : Int) + 4))) none).run Tryd.prog w = .ok (.string E) w := fun w => by
          have h3 := run_slice_string (P := Tryd.prog) (w := w) 9 s .i64 .i64 (p : Int) ((p : Int) + 4) Tryd.underlying9 (by omega) (by omega) (by omega)
          rw [h3, ← hE]
          congr 2
        have hAt := at_4 hsz H.out hc0 hc1 hc2
        rw [← hM, hT, hE] at hAt
        rcases hAt with ⟨hA, hB⟩ | ⟨hA, hB⟩
        · have HU : Hid (R = (m, (p : Int) + 4)) := by rw [HY.out _ _ hA, ← hM]; rfl
          clear hA hM hpvn hE hT
          subst hB
          go_wp2_with fail
          go_region_held3 (fun _ : World => True) (exact trivial) ((go_at_call 13; refine (HT.out _).mono ?_; rintro e w1 ⟨rfl, hb1⟩))
          all_goals
            go_wp2_with fail
            go_ret2
            exact ⟨ret_ra HU.out, by first | exact hb1 | exact below_dr hb1 | exact hb1.drew | exact (below_dr hb1).drew⟩
        · have HU := Lib.hid (HN.out hA)
          have hne := bs_ne hB
          clear hA hM hpvn hE hT hB
          go_wp2_with fail
          go_region_held3 (fun _ : World => True) (exact trivial) ((go_at_call 13; refine (HT.out _).mono ?_; rintro e w1 ⟨rfl, hb1⟩))
          all_goals
            go_wp2_with fail
            go_ret2
            exact ⟨ret_ra HU.out, by first | exact hb1 | exact below_dr hb1 | exact hb1.drew | exact (below_dr hb1).drew⟩

theorem s_RuneAt_1 (s : ByteArray) (p : Nat) (hs : s.size ≤ 2147483648) (hp : p < s.size) (h : bAt s p < 192) (w : World) : Calls Tryd.prog 5 #[.string s, .int .i64 (p : Int)] w fun e w' => e = .returned (.tuple #[.int .i64 (raV s (p : Int)).1, .int .i64 (raV s (p : Int)).2]) ∧ Below w.heap.size w w' := by
  obtain ⟨R, hR⟩ : ∃ R, raV s (p : Int) = R := ⟨_, rfl⟩
  have hno := fun (hh : raD s p = none) => hR.symm.trans (ra_none hp hh)
  have hyes := fun (n k : Nat) (hh : raD s p = some (n, k)) => hR.symm.trans (ra_some hp hh)
  rw [hR]
  have HI : Hid (inB (p : Int) 0 ((s.size : Int) - 1) = true) := inB_t ⟨by omega, by omega⟩
  obtain ⟨z, hz⟩ : ∃ z : Int, ((s[p]'hp).toNat : Int) = z := ⟨_, rfl⟩
  have hzb : z = (bAt s p : Int) := by rw [← hz, bAt_get s p hp]
  have hz0 : 0 ≤ z := by omega
  have hz1 : z < 192 := by omega
  have hp0 : (0 : Int) ≤ (p : Int) := by omega
  have hp1 : (p : Int) < (s.size : Int) := by omega
  have hend : ¬ (s.size : Int) < (p : Int) + 1 := by omega
  obtain ⟨E, hE⟩ : ∃ E, s.extract p (p + 1) = E := ⟨_, rfl⟩
  obtain ⟨T, hT⟩ : ∃ T, runeT z = T := ⟨_, rfl⟩
  have HT : Hid (∀ w, Calls Tryd.prog 13 #[.int .i64 z] w fun e w' => e = .returned (.string T) ∧ Below w.heap.size w w') := fun w => by rw [← hT]; exact s_RuneText z w
  have e1 : IntKind.i64.wrap ((p : Int) + 1) = (p : Int) + 1 := IntWalk.i64_in _ ⟨by omega, by omega⟩
  have hsl : ∀ w, (Instr.slice 9 (.string s) (some (.int .i64 (p : Int))) (some (.int .i64 ((p : Int) + 1))) none).run Tryd.prog w = .ok (.string E) w := fun w => by
    have h3 := run_slice_string (P := Tryd.prog) (w := w) 9 s .i64 .i64 (p : Int) ((p : Int) + 1) Tryd.underlying9 (by omega) (by omega) (by omega)
    rw [h3, ← hE]
    congr 2
  by_cases hlo : bAt s p < 128
  · obtain ⟨hA, hB⟩ := at_1 hp hlo
    rw [← hzb, hT, hE] at hB
    have HU : Hid (R = (z, (p : Int) + 1)) := by rw [hyes _ _ hA, ← hzb]; rfl
    clear hA hzb hE hT hno hyes hR h hlo
    subst hB
    go_enter Tryd.func5, Tryd.ntmps5
    go_wp2_with (go_at_call 12; refine (s_l01In _ _ _ _).mono ?_; rintro e w' ⟨rfl, rfl⟩; rw [HI.out])
    go_loop [8, 9] (fun n i => n = .int .i64 z ∧ i = .int .i64 1) (fun _ _ => 0)
    case atStart => exact ⟨rfl, rfl⟩
    case round =>
      obtain ⟨rfl, rfl⟩ := hrel
      go_wp2_with fail
      go_region_held3 (fun _ : World => True) (exact trivial) ((go_at_call 13; refine (HT.out _).mono ?_; rintro e w1 ⟨rfl, hb1⟩))
      all_goals
        go_wp2_with fail
        go_ret2
        exact ⟨ret_ra HU.out, by first | exact hb1 | exact below_dr hb1 | exact hb1.drew | exact (below_dr hb1).drew⟩
  · obtain ⟨hA, hB⟩ := at_lone (s := s) (p := p) hlo h
    rw [← hzb, hT, hE] at hB
    have HU := Lib.hid (hno hA)
    have hne := bs_ne hB
    clear hA hzb hE hT hno hyes hR h hlo hB
    go_enter Tryd.func5, Tryd.ntmps5
    go_wp2_with (go_at_call 12; refine (s_l01In _ _ _ _).mono ?_; rintro e w' ⟨rfl, rfl⟩; rw [HI.out])
    go_loop [8, 9] (fun n i => n = .int .i64 z ∧ i = .int .i64 1) (fun _ _ => 0)
    case atStart => exact ⟨rfl, rfl⟩
    case round =>
      obtain ⟨rfl, rfl⟩ := hrel
      go_wp2_with fail
      go_region_held3 (fun _ : World => True) (exact trivial) ((go_at_call 13; refine (HT.out _).mono ?_; rintro e w1 ⟨rfl, hb1⟩))
      all_goals
        go_wp2_with fail
        go_ret2
        exact ⟨ret_ra HU.out, by first | exact hb1 | exact below_dr hb1 | exact hb1.drew | exact (below_dr hb1).drew⟩

theorem s_RuneAt (s : ByteArray) (a : Int) (hs : s.size ≤ 2147483648) (ha : -9223372036854775808 ≤ a ∧ a ≤ 9223372036854775807) (w : World) : Calls Tryd.prog 5 #[.string s, .int .i64 a] w fun e w' => e = .returned (.tuple #[.int .i64 (raV s a).1, .int .i64 (raV s a).2]) ∧ Below w.heap.size w w' := by
  by_cases h0 : 0 ≤ a ∧ a < (s.size : Int)
  · obtain ⟨p, rfl⟩ : ∃ p : Nat, a = (p : Int) := ⟨a.toNat, by omega⟩
    have hp : p < s.size := by omega
    by_cases h1 : bAt s p < 192
    · exact s_RuneAt_1 s p hs hp h1 w
    · by_cases h2 : bAt s p < 224
      · exact s_RuneAt_2 s p hs hp ⟨by omega, h2⟩ w
      · by_cases h3 : bAt s p < 240
        · exact s_RuneAt_3 s p hs hp ⟨by omega, h3⟩ w
        · exact s_RuneAt_4 s p hs hp (by omega) w
  · have HR : Hid (raV s a = (0, -1)) := if_pos (by omega)
    have HI : Hid (inB a 0 ((s.size : Int) - 1) = false) := inB_f (by omega)
    clear h0
    go_enter Tryd.func5, Tryd.ntmps5
    go_wp2_with (go_at_call 12; refine (s_l01In _ _ _ _).mono ?_; rintro e w' ⟨rfl, rfl⟩; rw [HI.out])
    go_ret2
    exact ⟨ret_ra HR.out, Below.refl _ _⟩

theorem walk_FnExactRuneAt (a : ByteArray) (b : Int) (w : World) (_ha : a.size ≤ maxLen) (hb : (Lit.int .i64 b).wf = true) (hT : Lib.Utf8Tabs 1 2 w) : Calls Tryd.prog 3 #[.string a, .int .i64 b] w fun e w' => e = .returned (.bool true) ∧ Below w.heap.size w w' := by
  have bb := bounds_i64 hb
  by_cases hl : (1048576 : Int) < (a.size : Int)
  · go_enter Tryd.func3, Tryd.ntmps3
    go_wp2
    go_ret
    exact ⟨rfl, Below.refl _ _⟩
  · obtain ⟨T, HS, HI⟩ : ∃ T : Int × Int, Hid (∀ w, Calls Tryd.prog 5 #[.string a, .int .i64 b] w fun e w' => e = .returned (.tuple #[.int .i64 T.1, .int .i64 T.2]) ∧ Below w.heap.size w w') ∧ Hid (∀ w, Lib.Utf8Tabs 1 2 w → Calls Tryd.prog 6 #[.string a, .int .i64 b] w fun e w' => e = .returned (.tuple #[.int .i64 T.1, .int .i64 T.2]) ∧ Below w.heap.size w w') := ⟨_, fun w => s_RuneAt a b (by omega) bb w, fun w h => i_RuneAt a b (by omega) bb w h⟩
    have HT := Lib.hid hT
    clear bb hT
    go_enter Tryd.func3, Tryd.ntmps3
    go_wp2_with fail
    refine (HS.out _).mono ?_
    rintro e w1 ⟨rfl, hb1⟩
    go_wp2_with fail
    refine (HI.out _ (Utf8Tabs_below HT.out hb1)).mono ?_
    rintro e w2 ⟨rfl, hb2⟩
    go_wp2_with fail
    go_ret
    exact ⟨rfl, hb1.trans (hb2.mono hb1.size)⟩
end Go.Proofs.YtedmfoogllekeaaDoor
