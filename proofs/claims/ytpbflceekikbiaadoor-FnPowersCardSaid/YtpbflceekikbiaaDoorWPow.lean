/-
  The law FnPowers. No conditions beyond the listed variables' places.
-/
import Derived.Test.YtpbflceekikbiaaDoorWUnits
import Derived.Test.YtpbflceekikbiaaDoorWC
namespace Go.Proofs.YtpbflceekikbiaaDoor
open Go.ChangeShapes Go.WideShapes Go.ChangeAt Go.RowKit Go.Proofs.YtpbflceekikbiaaDoor.Dec

theorem powF_last : ∀ (k : Nat) (z b : Int), powF (k + 1) z b = (0, false) ∨ (mulB (powF k z b).1 b = true ∧ powF (k + 1) z b = (mulV (powF k z b).1 b, true))
  | 0, z, b => by
    by_cases h : mulB z b = true
    · exact .inr ⟨h, by rw [powF_yes h]; rfl⟩
    · exact .inl (powF_no (by simpa using h))
  | k + 1, z, b => by
    by_cases h : mulB z b = true
    · rw [powF_yes h, powF_yes h]
      exact powF_last k _ b
    · exact .inl (powF_no (by simpa using h))
theorem pow_next {x y p q : Int} {b1 : Bool} (hy : 0 ≤ y) (hy2 : y < 100) (hp : powR x y = (p, b1)) (hq : powR x (y + 1) = (q, true)) : mulB p x = true ∧ mulV p x = q := by
  unfold powR at hp hq
  by_cases hx : 0 ≤ x
  · rw [if_pos ⟨hx, hy, by omega⟩] at hp
    rw [if_pos ⟨hx, by omega, by omega⟩, show (y + 1).toNat = y.toNat + 1 by omega] at hq
    rcases powF_last y.toNat 1 x with h | ⟨h1, h2⟩
    · rw [h] at hq; cases hq
    · rw [hp] at h1 h2
      rw [h2] at hq
      exact ⟨h1, congrArg Prod.fst hq⟩
  · rw [if_neg (by omega)] at hq
    cases hq
theorem powF_b : ∀ (k : Nat) (z b : Int), 0 ≤ z ∧ z ≤ 9223372036854775807 → 0 ≤ (powF k z b).1 ∧ (powF k z b).1 ≤ 9223372036854775807
  | 0, _, _, h => h
  | k + 1, z, b, h => by
    by_cases hm : mulB z b = true
    · rw [powF_yes hm]
      exact powF_b k _ b (mulV_bd hm)
    · rw [powF_no (by simpa using hm)]
      decide
theorem powR_b (x n : Int) : 0 ≤ (powR x n).1 ∧ (powR x n).1 ≤ 9223372036854775807 := by
  unfold powR
  split
  · exact powF_b _ _ _ (by decide)
  · decide
theorem read_max : readI [57, 50, 50, 51, 51, 55, 50, 48, 51, 54, 56, 53, 52, 55, 55, 53, 56, 48, 55] = (9223372036854775807, true) := by
  have := read_dec (n := 9223372036854775807) (by decide)
  rw [dec_by (l := [57, 50, 50, 51, 51, 55, 50, 48, 51, 54, 56, 53, 52, 55, 55, 53, 56, 48, 55]) (by decide) (by decide) (by decide +kernel)] at this
  exact this
theorem read_itoa {v : Int} (h : I64 v) : readI (Lib.itoa v) = if 0 ≤ v then (v, true) else (0, false) := by
  by_cases h0 : 0 ≤ v
  · obtain ⟨n, rfl⟩ : ∃ n : Nat, v = (n : Int) := ⟨v.toNat, by omega⟩
    rw [if_pos h0, Lib.itoa_nonneg, read_dec (by have := h.2; omega)]
  · obtain ⟨n, hn, rfl⟩ : ∃ n : Nat, 1 ≤ n ∧ v = -(n : Int) := ⟨(-v).toNat, by omega, by omega⟩
    rw [if_neg h0, Lib.itoa_neg n hn]
    exact read_no fun hg => absurd (good_digs hg 45 (by simp)) (by unfold isDig; decide)

set_option maxHeartbeats 8000000 in
theorem walk_FnPowers (a : Option Addr) (len cap : Nat) (zs : List Int) (w : World) (hz : IsRow .u8 w a len cap zs) (hSt : Tab w ∧ Errs w) : Calls Tryd.prog 8 #[.slice a len cap] w fun e w' => e = .returned (.bool true) ∧ Below w.heap.size w w' := by
  obtain ⟨hT, hE⟩ := hSt
  have HT := Lib.hid hT
  have HE := Lib.hid hE
  clear hT hE
  have HC := Lib.hid (code_of hz)
  have hm : len ≤ 9223372036854775807 := by
    rcases hz with ⟨_, rfl, _⟩ | ⟨x, _, hl, hm, _⟩
    · omega
    · unfold maxLen at hm; omega
  clear hz
  by_cases hb : (1048576 : Int) < (len : Int)
  · have hd : decide ((1048576 : Int) < (len : Int)) = true := by simpa using hb
    go_enter Tryd.func8, Tryd.ntmps8
    go_wp2_with (go_at_call 25; refine (l_big _ _ _ _ hm).mono ?_; rintro e w' ⟨rfl, rfl⟩)
    go_ret
    exact ⟨rfl, Below.refl _ _⟩
  have hd0 : decide ((1048576 : Int) < (len : Int)) = false := by simpa using hb
  have hm2 : len ≤ 1048576 := by omega
  have HM1 : Hid (∀ w, Tab w → Errs w → Calls Tryd.prog 22 #[.string ⟨#[57, 50, 50, 51, 51, 55, 50, 48, 51, 54, 56, 53, 52, 55, 55, 53, 56, 48, 55]⟩] w fun e w' => e = .returned (.tuple #[.int .i64 9223372036854775807, .bool true]) ∧ Below w.heap.size w w') := fun w h1 h2 => by
    have := i_ReadInt ⟨#[57, 50, 50, 51, 51, 55, 50, 48, 51, 54, 56, 53, 52, 55, 55, 53, 56, 48, 55]⟩ (by decide) w h1 h2
    rw [show (⟨#[57, 50, 50, 51, 51, 55, 50, 48, 51, 54, 56, 53, 52, 55, 55, 53, 56, 48, 55]⟩ : ByteArray).data.toList = [57, 50, 50, 51, 51, 55, 50, 48, 51, 54, 56, 53, 52, 55, 55, 53, 56, 48, 55] from rfl, read_max] at this
    exact this
  have HM2 : Hid (∀ w, Tab w → Errs w → Calls Tryd.prog 22 #[.string ⟨#[57, 50, 50, 51, 51, 55, 50, 48, 51, 54, 56, 53, 52, 55, 55, 53, 56, 48, 56]⟩] w fun e w' => e = .returned (.tuple #[.int .i64 0, .bool false]) ∧ Below w.heap.size w w') := fun w h1 h2 => by
    have := i_ReadInt ⟨#[57, 50, 50, 51, 51, 55, 50, 48, 51, 54, 56, 53, 52, 55, 55, 53, 56, 48, 56]⟩ (by decide) w h1 h2
    rw [show (⟨#[57, 50, 50, 51, 51, 55, 50, 48, 51, 54, 56, 53, 52, 55, 55, 53, 56, 48, 56]⟩ : ByteArray).data.toList = [57, 50, 50, 51, 51, 55, 50, 48, 51, 54, 56, 53, 52, 55, 55, 53, 56, 48, 56] from rfl, big8] at this
    exact this
  have HIT : Hid (∀ v w, I64 v → Tab w → Calls Tryd.prog 18 #[.int .i64 v] w fun e w' => e = .returned (.string ⟨(Lib.itoa v).toArray⟩) ∧ Below w.heap.size w w') := fun v w h h1 => i_IntText v h.1 h.2 w h1
  have HRT : Hid (∀ v w, I64 v → Tab w → Errs w → Calls Tryd.prog 22 #[.string ⟨(Lib.itoa v).toArray⟩] w fun e w' => e = .returned (.tuple #[.int .i64 (if 0 ≤ v then (v, true) else (0, false) : Int × Bool).1, .bool (if 0 ≤ v then (v, true) else (0, false) : Int × Bool).2]) ∧ Below w.heap.size w w') := fun v w h h1 h2 => by
    have := i_ReadInt ⟨(Lib.itoa v).toArray⟩ (by rw [bs_size]; exact Nat.le_trans (Lib.itoa_length_le v h.1 h.2) (by decide)) w h1 h2
    rw [bs_list, read_itoa h] at this
    exact this
  go_enter Tryd.func8, Tryd.ntmps8
  go_wp2_with (go_at_call 25; refine (l_big _ _ _ _ hm).mono ?_; rintro e w' ⟨rfl, rfl⟩)
  refine (s_DrawPowInt w a len cap hm2 HC.out).mono ?_
  rintro e w1 ⟨x, y, rfl, hx, ⟨hy0, hy1⟩, hb1⟩
  have HX := Lib.hid hx
  clear hx
  have HP : Hid (∀ n w, Calls Tryd.prog 27 #[.int .i64 x, .int .i64 n] w fun e w' => e = .returned (.tuple #[.int .i64 (powR x n).1, .bool (powR x n).2]) ∧ w = w') := fun n w => i_PowInt x n HX.out w
  obtain ⟨p, b1, hp⟩ : ∃ p b1, powR x y = (p, b1) := ⟨_, _, rfl⟩
  obtain ⟨q, b2, hq⟩ : ∃ q b2, powR x (y + 1) = (q, b2) := ⟨_, _, rfl⟩
  have HP1 : Hid (∀ w, Calls Tryd.prog 27 #[.int .i64 x, .int .i64 y] w fun e w' => e = .returned (.tuple #[.int .i64 p, .bool b1]) ∧ w = w') := fun w => by
    have := HP.out y w
    rw [hp] at this
    exact this
  have HP2 : Hid (∀ w, Calls Tryd.prog 27 #[.int .i64 x, .int .i64 (y + 1)] w fun e w' => e = .returned (.tuple #[.int .i64 q, .bool b2]) ∧ w = w') := fun w => by
    have := HP.out (y + 1) w
    rw [hq] at this
    exact this
  have hpb : Hid (I64 p) := by
    have := powR_b x y
    rw [hp] at this
    exact ⟨by have := this.1; omega, this.2⟩
  clear HP
  have hall : (b1 = true ∧ b2 = true ∧ 0 ≤ y ∧ y < 100) ∨ b1 = false ∨ (b1 = true ∧ b2 = false) ∨ (b1 = true ∧ b2 = true ∧ y < 0) ∨ (b1 = true ∧ b2 = true ∧ 0 ≤ y ∧ 100 ≤ y) := by
    cases b1 <;> cases b2 <;> simp <;> omega
  rcases hall with ⟨rfl, rfl, t1, t2⟩ | rfl | ⟨rfl, rfl⟩ | ⟨rfl, rfl, t1⟩ | ⟨rfl, rfl, t1, t2⟩
  case inl =>
    obtain ⟨h1, h2⟩ := pow_next t1 t2 hp hq
    have HMul : Hid (∀ w, Calls Tryd.prog 28 #[.int .i64 p, .int .i64 x] w fun e w' => e = .returned (.tuple #[.int .i64 q, .bool true]) ∧ w = w') := fun w => by
      have := s_MulInt p x hpb.out HX.out w
      rw [h1, h2] at this
      exact this
    clear h1 h2 hp hq
    go_wp2_with fail
    refine (HP1.out _).mono ?_
    rintro e w' ⟨rfl, rfl⟩
    go_wp2_with fail
    refine (HP2.out _).mono ?_
    rintro e w' ⟨rfl, rfl⟩
    go_wp2_with fail
    refine (HMul.out _).mono ?_
    rintro e w' ⟨rfl, rfl⟩
    go_wp2_with fail
    refine (s_DrawIntText w1 a len cap hm2 (code_below HC.out hb1)).mono ?_
    rintro e w2 ⟨v, rfl, hv, hb2⟩
    have hg2 := hb1.trans (hb2.mono hb1.size)
    clear hb2
    have HV := Lib.hid hv
    have HIV := Lib.hid (fun w => HIT.out v w hv)
    have HRV := Lib.hid (fun w => HRT.out v w hv)
    obtain ⟨S, hS⟩ : ∃ S : ByteArray, (⟨(Lib.itoa v).toArray⟩ : ByteArray) = S := ⟨_, rfl⟩
    rw [hS] at HIV HRV
    clear hv hS
    by_cases hv0 : 0 ≤ v
    · rw [if_pos hv0] at HRV
      go_wp2_with fail
      refine (HIV.out _ (HT.out.below hg2)).mono ?_
      rintro e w3 ⟨rfl, hb3⟩
      have hg3 := hg2.trans (hb3.mono hg2.size)
      clear hb3
      go_wp2_with fail
      refine (HRV.out _ (HT.out.below hg3) (HE.out.below hg3)).mono ?_
      rintro e w4 ⟨rfl, hb4⟩
      have hg4 := hg3.trans (hb4.mono hg3.size)
      clear hb4
      go_wp2_with fail
      refine (HM1.out _ (HT.out.below hg4) (HE.out.below hg4)).mono ?_
      rintro e w5 ⟨rfl, hb5⟩
      have hg5 := hg4.trans (hb5.mono hg4.size)
      clear hb5
      go_wp2_with fail
      refine (HM2.out _ (HT.out.below hg5) (HE.out.below hg5)).mono ?_
      rintro e w6 ⟨rfl, hb6⟩
      have hg6 := hg5.trans (hb6.mono hg5.size)
      clear hb6
      go_wp2_with fail
      go_ret
      exact ⟨rfl, hg6⟩
    · have HV0 := Lib.hid hv0
      rw [if_neg hv0] at HRV
      go_wp2_with fail
      refine (HIV.out _ (HT.out.below hg2)).mono ?_
      rintro e w3 ⟨rfl, hb3⟩
      have hg3 := hg2.trans (hb3.mono hg2.size)
      clear hb3
      go_wp2_with fail
      refine (HRV.out _ (HT.out.below hg3) (HE.out.below hg3)).mono ?_
      rintro e w4 ⟨rfl, hb4⟩
      have hg4 := hg3.trans (hb4.mono hg3.size)
      clear hb4
      go_wp2_with fail
      refine (HM1.out _ (HT.out.below hg4) (HE.out.below hg4)).mono ?_
      rintro e w5 ⟨rfl, hb5⟩
      have hg5 := hg4.trans (hb5.mono hg4.size)
      clear hb5
      go_wp2_with fail
      refine (HM2.out _ (HT.out.below hg5) (HE.out.below hg5)).mono ?_
      rintro e w6 ⟨rfl, hb6⟩
      have hg6 := hg5.trans (hb6.mono hg5.size)
      clear hb6
      go_wp2_with fail
      go_ret
      refine ⟨?_, hg6⟩
      show Ending.returned (.bool (!decide (0 ≤ v))) = _
      rw [decide_eq_false (by have := HV0.out; omega)]
      rfl
  all_goals
    clear hp hq
    go_wp2_with fail
    refine (HP1.out _).mono ?_
    rintro e w' ⟨rfl, rfl⟩
    go_wp2_with fail
    refine (HP2.out _).mono ?_
    rintro e w' ⟨rfl, rfl⟩
    go_wp2_with fail
    refine (s_DrawIntText w1 a len cap hm2 (code_below HC.out hb1)).mono ?_
    rintro e w2 ⟨v, rfl, hv, hb2⟩
    have hg2 := hb1.trans (hb2.mono hb1.size)
    clear hb2
    have HV := Lib.hid hv
    have HIV := Lib.hid (fun w => HIT.out v w hv)
    have HRV := Lib.hid (fun w => HRT.out v w hv)
    obtain ⟨S, hS⟩ : ∃ S : ByteArray, (⟨(Lib.itoa v).toArray⟩ : ByteArray) = S := ⟨_, rfl⟩
    rw [hS] at HIV HRV
    clear hv hS
    by_cases hv0 : 0 ≤ v
    · rw [if_pos hv0] at HRV
      go_wp2_with fail
      refine (HIV.out _ (HT.out.below hg2)).mono ?_
      rintro e w3 ⟨rfl, hb3⟩
      have hg3 := hg2.trans (hb3.mono hg2.size)
      clear hb3
      go_wp2_with fail
      refine (HRV.out _ (HT.out.below hg3) (HE.out.below hg3)).mono ?_
      rintro e w4 ⟨rfl, hb4⟩
      have hg4 := hg3.trans (hb4.mono hg3.size)
      clear hb4
      go_wp2_with fail
      refine (HM1.out _ (HT.out.below hg4) (HE.out.below hg4)).mono ?_
      rintro e w5 ⟨rfl, hb5⟩
      have hg5 := hg4.trans (hb5.mono hg4.size)
      clear hb5
      go_wp2_with fail
      refine (HM2.out _ (HT.out.below hg5) (HE.out.below hg5)).mono ?_
      rintro e w6 ⟨rfl, hb6⟩
      have hg6 := hg5.trans (hb6.mono hg5.size)
      clear hb6
      go_wp2_with fail
      go_ret
      exact ⟨rfl, hg6⟩
    · have HV0 := Lib.hid hv0
      rw [if_neg hv0] at HRV
      go_wp2_with fail
      refine (HIV.out _ (HT.out.below hg2)).mono ?_
      rintro e w3 ⟨rfl, hb3⟩
      have hg3 := hg2.trans (hb3.mono hg2.size)
      clear hb3
      go_wp2_with fail
      refine (HRV.out _ (HT.out.below hg3) (HE.out.below hg3)).mono ?_
      rintro e w4 ⟨rfl, hb4⟩
      have hg4 := hg3.trans (hb4.mono hg3.size)
      clear hb4
      go_wp2_with fail
      refine (HM1.out _ (HT.out.below hg4) (HE.out.below hg4)).mono ?_
      rintro e w5 ⟨rfl, hb5⟩
      have hg5 := hg4.trans (hb5.mono hg4.size)
      clear hb5
      go_wp2_with fail
      refine (HM2.out _ (HT.out.below hg5) (HE.out.below hg5)).mono ?_
      rintro e w6 ⟨rfl, hb6⟩
      have hg6 := hg5.trans (hb6.mono hg5.size)
      clear hb6
      go_wp2_with fail
      go_ret
      refine ⟨?_, hg6⟩
      show Ending.returned (.bool (!decide (0 ≤ v))) = _
      rw [decide_eq_false (by have := HV0.out; omega)]
      rfl
end Go.Proofs.YtpbflceekikbiaaDoor
