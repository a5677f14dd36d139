/-
  SumInts (both sides) and its law. No conditions.
-/
import Derived.Test.YtehhdnphpjmghaaInts
import Derived.Test.YtehhdnphpjmghaaWInt
namespace Go.Proofs.Ytehhdnphpjmghaa
open Go.ChangeShapes Go.WideShapes Go.ChangeAt Go.RowKit

def sumR : List Int → Int → Int × Bool
  | [], acc => (acc, true)
  | x :: r, acc => if addB acc x = true then sumR r (acc + x) else (0, false)
theorem sumR_step {l : List Int} {k : Nat} (acc : Int) (h : k < l.length) : sumR (l.drop k) acc = if addB acc (l.getD k 0) = true then sumR (l.drop (k + 1)) (acc + l.getD k 0) else (0, false) := by
  have e3 : l.getD k 0 = l[k] := by simp [List.getD, List.getElem?_eq_getElem h]
  rw [List.drop_eq_getElem_cons h, e3]
  rfl
theorem sumR_end {l : List Int} {k : Nat} (acc : Int) (h : l.length ≤ k) : sumR (l.drop k) acc = (acc, true) := by
  rw [List.drop_eq_nil_of_le h]
  rfl
theorem ret_sum {a : Int} {b : Bool} {r : Int × Bool} (h : r = (a, b)) : Ending.returned (.tuple #[.int .i64 a, .bool b]) = .returned (.tuple #[.int .i64 r.1, .bool r.2]) := by rw [h]

def In64 (l : List Int) : Prop := ∀ j, j < l.length → -9223372036854775808 ≤ l.getD j 0 ∧ l.getD j 0 ≤ 9223372036854775807

theorem i_SumInts (w : World) (g len : Nat) (l : List Int) (hl : l.length = len) (hm : len ≤ 1048576) (h1 : HasI w g l) (hin : In64 l) : Calls Try.prog 29 #[.slice (some ⟨g, 0, none⟩) len len] w fun e w' => e = .returned (.tuple #[.int .i64 (sumR l 0).1, .bool (sumR l 0).2]) ∧ w = w' := by
  have HL := Lib.hid hl
  have H1 := Lib.hid h1
  have HN := Lib.hid hin
  clear hl h1 hin
  go_enter Try.func29, Try.ntmps29
  go_wp2_with fail
  go_loop [4, 11] (fun s i => ∃ (k : Nat) (acc : Int), s = .int .i64 acc ∧ i = .int .i64 k ∧ k ≤ len ∧ 0 ≤ acc ∧ acc ≤ 9223372036854775807 ∧ Hid (sumR (l.drop k) acc = sumR l 0)) (fun _ i => len - (intOf i).toNat)
  case atStart => exact ⟨0, 0, rfl, rfl, by omega, by omega, by omega, rfl⟩
  case round =>
    obtain ⟨k, acc, rfl, rfl, hk, ha0, ha1, HS⟩ := hrel
    by_cases hlt : k < len
    · have hcell := H1.out.cell k (by rw [HL.out]; exact hlt)
      obtain ⟨hb0, hb1⟩ := HN.out k (by rw [HL.out]; exact hlt)
      have hst := sumR_step acc (l := l) (k := k) (by rw [HL.out]; exact hlt)
      rw [HS.out] at hst
      obtain ⟨z, hz⟩ : ∃ z, l.getD k 0 = z := ⟨_, rfl⟩
      rw [hz] at hcell hb0 hb1 hst
      by_cases hadd : 0 ≤ acc ∧ 0 ≤ z ∧ acc + z ≤ 9223372036854775807
      · have hA := Lib.hid (add_t hadd)
        rw [if_pos hA.out.1] at hst
        have HS2 := Lib.hid hst.symm
        obtain ⟨_, hz0, hz1⟩ := hadd
        clear hst hz HS
        go_wp2_with (go_at_call 18; refine (i_AddInt acc z (by omega) (by omega) _).mono ?_; rintro e w' ⟨rfl, rfl⟩; rw [hA.out.1, hA.out.2])
        go_round
        case rel => exact ⟨k + 1, acc + z, rfl, by go_num, by omega, by omega, by omega, HS2⟩
        case measure => simp [intOf]; omega
      · have hA := Lib.hid (add_f hadd)
        rw [if_neg (by rw [hA.out.1]; decide)] at hst
        have HS2 := Lib.hid hst
        clear hst hz HS hadd
        go_wp2_with (go_at_call 18; refine (i_AddInt acc z (by omega) (by omega) _).mono ?_; rintro e w' ⟨rfl, rfl⟩; rw [hA.out.1, hA.out.2])
        go_ret2
        exact ⟨ret_sum HS2.out, rfl⟩
    · have HE := Lib.hid ((sumR_end acc (l := l) (k := k) (by rw [HL.out]; omega)).symm.trans HS.out)
      clear HS
      go_wp2_with fail
      go_ret2
      exact ⟨ret_sum HE.out.symm, rfl⟩

theorem s_SumInts (w : World) (g len : Nat) (l : List Int) (hl : l.length = len) (hm : len ≤ 1048576) (h1 : HasI w g l) (hin : In64 l) : Calls Try.prog 27 #[.slice (some ⟨g, 0, none⟩) len len] w fun e w' => e = .returned (.tuple #[.int .i64 (sumR l 0).1, .bool (sumR l 0).2]) ∧ w = w' := by
  have HL := Lib.hid hl
  have H1 := Lib.hid h1
  have HN := Lib.hid hin
  clear hl h1 hin
  go_enter Try.func27, Try.ntmps27
  go_wp2_with fail
  go_loop [4, 5] (fun s i => ∃ (k : Nat) (acc : Int), s = .int .i64 acc ∧ i = .int .i64 k ∧ k ≤ len ∧ 0 ≤ acc ∧ acc ≤ 9223372036854775807 ∧ Hid (sumR (l.drop k) acc = sumR l 0)) (fun _ i => len - (intOf i).toNat)
  case atStart => exact ⟨0, 0, rfl, rfl, by omega, by omega, by omega, rfl⟩
  case round =>
    obtain ⟨k, acc, rfl, rfl, hk, ha0, ha1, HS⟩ := hrel
    by_cases hlt : k < len
    · have hcell := H1.out.cell k (by rw [HL.out]; exact hlt)
      obtain ⟨hb0, hb1⟩ := HN.out k (by rw [HL.out]; exact hlt)
      have hst := sumR_step acc (l := l) (k := k) (by rw [HL.out]; exact hlt)
      rw [HS.out] at hst
      obtain ⟨z, hz⟩ : ∃ z, l.getD k 0 = z := ⟨_, rfl⟩
      rw [hz] at hcell hb0 hb1 hst
      by_cases hadd : 0 ≤ acc ∧ 0 ≤ z ∧ acc + z ≤ 9223372036854775807
      · have hA := Lib.hid (add_t hadd)
        rw [if_pos hA.out.1] at hst
        have HS2 := Lib.hid hst.symm
        obtain ⟨_, hz0, hz1⟩ := hadd
        clear hst hz HS
        go_wp2_with (go_at_call 17; refine (s_AddInt acc z (by omega) (by omega) _).mono ?_; rintro e w' ⟨rfl, rfl⟩; rw [hA.out.1, hA.out.2])
        go_round
        case rel => exact ⟨k + 1, acc + z, rfl, by go_num, by omega, by omega, by omega, HS2⟩
        case measure => simp [intOf]; omega
      · have hA := Lib.hid (add_f hadd)
        rw [if_neg (by rw [hA.out.1]; decide)] at hst
        have HS2 := Lib.hid hst
        clear hst hz HS hadd
        go_wp2_with (go_at_call 17; refine (s_AddInt acc z (by omega) (by omega) _).mono ?_; rintro e w' ⟨rfl, rfl⟩; rw [hA.out.1, hA.out.2])
        go_ret2
        exact ⟨ret_sum HS2.out, rfl⟩
    · have HE := Lib.hid ((sumR_end acc (l := l) (k := k) (by rw [HL.out]; omega)).symm.trans HS.out)
      clear HS
      go_wp2_with fail
      go_ret2
      exact ⟨ret_sum HE.out.symm, rfl⟩

theorem walk_FnExactSumInts (a : Option Addr) (len cap : Nat) (zs : List Int) (w : World) (hz : IsRow .i64 w a len cap zs) : Calls Try.prog 10 #[.slice a len cap] w fun e w' => e = .returned (.bool true) ∧ Below w.heap.size w w' := by
  obtain ⟨hcode, hlen⟩ := code64_of hz
  have hm : len ≤ 9223372036854775807 := by
    rcases hz with ⟨_, rfl, _⟩ | ⟨x, _, hl, hm, _⟩
    · omega
    · unfold maxLen at hm; omega
  clear hz
  generalize zs.take len = l at hcode hlen
  have HN : Hid (In64 l) := fun j hj => by obtain ⟨_, _, _, _, h1, h2⟩ := hcode j hj; exact ⟨h1, h2⟩
  have HC := Lib.hid hcode
  have HL := Lib.hid hlen
  clear hcode hlen
  by_cases hb : (1048576 : Int) < (len : Int)
  · go_enter Try.func10, Try.ntmps10
    go_wp2_with fail
    go_ret
    exact ⟨rfl, Below.refl _ _⟩
  · obtain ⟨r, hr⟩ : ∃ r, sumR l 0 = r := ⟨_, rfl⟩
    have HI : Hid (∀ w g, HasI w g l → Calls Try.prog 29 #[.slice (some ⟨g, 0, none⟩) len len] w fun e w' => e = .returned (.tuple #[.int .i64 r.1, .bool r.2]) ∧ w = w') := fun w g h => by rw [← hr]; exact i_SumInts w g len l HL.out (by omega) h HN.out
    have HS : Hid (∀ w g, HasI w g l → Calls Try.prog 27 #[.slice (some ⟨g, 0, none⟩) len len] w fun e w' => e = .returned (.tuple #[.int .i64 r.1, .bool r.2]) ∧ w = w') := fun w g h => by rw [← hr]; exact s_SumInts w g len l HL.out (by omega) h HN.out
    clear hr
    go_enter Try.func10, Try.ntmps10
    go_wp2_with fail
    refine (l_toIntS w a len cap l HL.out (by omega) HC.out).mono ?_
    rintro e w1 ⟨rfl, hI1, hb1⟩
    have H1 := Lib.hid hI1
    have hs1 := hb1.size
    clear hI1
    go_wp2_with fail
    refine (HS.out _ _ H1.out).mono ?_
    rintro e w' ⟨rfl, rfl⟩
    go_wp2_with fail
    refine (l_toIntS w1 a len cap l HL.out (by omega) (HC.out.below hb1 (Nat.le_refl _))).mono ?_
    rintro e w2 ⟨rfl, hI2, hb2⟩
    have H2 := Lib.hid hI2
    have hs2 := hb2.size
    clear hI2
    go_wp2_with fail
    refine (HI.out _ _ H2.out).mono ?_
    rintro e w' ⟨rfl, rfl⟩
    go_wp2_with fail
    refine (l_toIntS w2 a len cap l HL.out (by omega) ((HC.out.below hb1 (Nat.le_refl _)).below hb2 (Nat.le_refl _))).mono ?_
    rintro e w3 ⟨rfl, hI3, hb3⟩
    have H3 := Lib.hid hI3
    have H2' := Lib.hid (H2.out.below hb3 H2.out.lt)
    clear hI3
    go_wp2_with fail
    refine (l_eqIntS w3 _ _ len l HL.out (by omega) H2'.out H3.out).mono ?_
    rintro e w4 ⟨rfl, n, rfl⟩
    go_wp2_with fail
    go_ret
    exact ⟨rfl, below_drewN (hb1.trans ((hb2.mono hs1).trans (hb3.mono (by omega)))) n⟩
end Go.Proofs.Ytehhdnphpjmghaa
