/-
  The law FnAmounts. No conditions beyond the listed variables' places.
-/
import Derived.Test.YtpbflceekikbiaaDoorWUnits
import Derived.Test.YtpbflceekikbiaaDoorWNorm
import Derived.Test.YtpbflceekikbiaaDoorWCmpAmt
namespace Go.Proofs.YtpbflceekikbiaaDoor
open Go.ChangeShapes Go.WideShapes Go.ChangeAt Go.RowKit Go.Proofs.YtpbflceekikbiaaDoor.Dec

theorem amtL_1500 : amtL 1500 = [49, 53, 48, 48, 109] := by
  unfold amtL
  rw [if_neg (by decide), if_pos (by decide)]
  show Lib.decDigits 1500 ++ [109] = _
  rw [dec_by (l := [49, 53, 48, 48]) (by decide) (by decide) (by decide +kernel)]
  rfl
theorem amt_len {n : Int} (h : I64 n) : (amtL n).length ≤ 21 := by
  unfold amtL
  split
  · decide
  split
  · rw [List.length_append]
    have := dec_len 18 n.toNat (by have := h.2; omega)
    simp only [List.length_cons, List.length_nil]
    omega
  · obtain ⟨_, h2, h3⟩ := up_val 4 (n.toNat / 1000) 0
    generalize upF 4 (n.toNat / 1000) 0 = x at h2 h3
    obtain ⟨u, k⟩ := x
    rw [List.length_append]
    have := dec_len 18 u (by have := h.2; simp only [] at h3; omega)
    have hk : k ≤ 4 := by simpa using h2
    have hk5 : k = 0 ∨ k = 1 ∨ k = 2 ∨ k = 3 ∨ k = 4 := by omega
    have hs : (sufK k).length ≤ 2 := by rcases hk5 with rfl | rfl | rfl | rfl | rfl <;> decide
    simp only []
    omega
theorem cmp_eq (a : Int) : cmpV a a = 0 := by unfold cmpV; rw [if_neg (by omega), if_neg (by omega)]

theorem walk_FnAmounts (a : Option Addr) (len cap : Nat) (zs : List Int) (w : World) (hz : IsRow .u8 w a len cap zs) (hSt : Tab w ∧ Errs w) : Calls Tryd.prog 14 #[.slice a len cap] w fun e w' => e = .returned (.bool true) ∧ Below w.heap.size w w' := by
  obtain ⟨hT, hE⟩ := hSt
  have HT := Lib.hid hT
  have HE := Lib.hid hE
  clear hT hE
  have HC := Lib.hid (code_of hz)
  have hm : len ≤ 9223372036854775807 := by
    rcases hz with ⟨_, rfl, _⟩ | ⟨x, _, hl, hm, _⟩
    · omega
    · unfold maxLen at hm; omega
  clear hz
  by_cases hb : (1048576 : Int) < (len : Int)
  · have hd : decide ((1048576 : Int) < (len : Int)) = true := by simpa using hb
    go_enter Tryd.func14, Tryd.ntmps14
    go_wp2_with (go_at_call 25; refine (l_big _ _ _ _ hm).mono ?_; rintro e w' ⟨rfl, rfl⟩)
    go_ret
    exact ⟨rfl, Below.refl _ _⟩
  have hd0 : decide ((1048576 : Int) < (len : Int)) = false := by simpa using hb
  have hm2 : len ≤ 1048576 := by omega
  have HA : Hid (∀ n w, I64 n → Tab w → Calls Tryd.prog 20 #[.int .i64 n] w fun e w' => e = .returned (.string ⟨(amtL n).toArray⟩) ∧ Below w.heap.size w w') := fun n w h h1 => i_AmountText n h w h1
  have H15 : Hid (∀ w, Tab w → Calls Tryd.prog 20 #[.int .i64 1500] w fun e w' => e = .returned (.string ⟨#[49, 53, 48, 48, 109]⟩) ∧ Below w.heap.size w w') := fun w h1 => by
    have := i_AmountText 1500 (by decide) w h1
    rw [amtL_1500] at this
    exact this
  go_enter Tryd.func14, Tryd.ntmps14
  go_wp2_with (go_at_call 25; refine (l_big _ _ _ _ hm).mono ?_; rintro e w' ⟨rfl, rfl⟩)
  refine (s_DrawAmountText w a len cap hm2 HC.out).mono ?_
  rintro e w1 ⟨n, rfl, hn, hb1⟩
  obtain ⟨T, hT⟩ : ∃ T : ByteArray, (⟨(amtL n).toArray⟩ : ByteArray) = T := ⟨_, rfl⟩
  have HTN := Lib.hid hT
  have HI := Lib.hid hn
  clear hn hT
  by_cases h0 : n < 0
  · have HT0 : Hid (∀ w, Tab w → Calls Tryd.prog 20 #[.int .i64 n] w fun e w' => e = .returned (.string ⟨#[]⟩) ∧ Below w.heap.size w w') := fun w h1 => by
      have := HA.out n w HI.out h1
      rw [amt_neg h0] at this
      exact this
    clear HTN
    go_wp2_with fail
    refine (HT0.out _ (HT.out.below hb1)).mono ?_
    rintro e w2 ⟨rfl, hb2⟩
    have hg2 := hb1.trans (hb2.mono hb1.size)
    clear hb2
    go_wp2_with fail
    refine (H15.out _ (HT.out.below hg2)).mono ?_
    rintro e w3 ⟨rfl, hb3⟩
    go_wp2_with fail
    go_ret
    exact ⟨rfl, hg2.trans (hb3.mono hg2.size)⟩
  · have HT0 : Hid (∀ w, Tab w → Calls Tryd.prog 20 #[.int .i64 n] w fun e w' => e = .returned (.string T) ∧ Below w.heap.size w w') := fun w h1 => by
      rw [← HTN.out]
      exact HA.out n w HI.out h1
    have hR : readAmt T = (n, 0) := by rw [← HTN.out]; exact read_amt (by omega) HI.out.2
    have hTs : T.size ≤ 21 := by rw [← HTN.out, bs_size]; exact amt_len HI.out
    have HRT : Hid (∀ w, Tab w → Errs w → Calls Tryd.prog 35 #[.string T] w fun e w' => e = .returned (.tuple #[.int .i64 n, .int .i64 0]) ∧ Below w.heap.size w w') := fun w h1 h2 => by
      have := i_ReadAmount T (by omega) w h1 h2
      rw [hR] at this
      exact this
    have HNT : Hid (∀ w, Tab w → Errs w → Calls Tryd.prog 37 #[.string T] w fun e w' => e = .returned (.tuple #[.string T, .int .i64 0]) ∧ Below w.heap.size w w') := fun w h1 h2 => by
      have := i_NormalAmount T (by omega) w h1 h2
      unfold normAmt at this
      rw [hR, if_neg (by simp), HTN.out] at this
      exact this
    obtain ⟨N, hN⟩ : ∃ N : Nat, n = (N : Int) := ⟨n.toNat, by omega⟩
    have hNb : N ≤ 9223372036854775807 := by have := HI.out.2; omega
    obtain ⟨S, hS⟩ : ∃ S : ByteArray, (⟨(Lib.decDigits N).toArray⟩ : ByteArray) = S := ⟨_, rfl⟩
    have hSs : S.size ≤ 19 := by rw [← hS, bs_size]; exact dec_len 18 N (by omega)
    have HIT : Hid (∀ w, Tab w → Calls Tryd.prog 18 #[.int .i64 n] w fun e w' => e = .returned (.string S) ∧ Below w.heap.size w w') := fun w h1 => by
      have := i_IntText n (by have := HI.out.1; omega) (by have := HI.out.2; omega) w h1
      rw [hN, Lib.itoa_nonneg, hS, ← hN] at this
      exact this
    obtain ⟨M, hM⟩ : ∃ M : ByteArray, S ++ ⟨#[109]⟩ = M := ⟨_, rfl⟩
    have hRM : readAmt M = (n, 0) := by
      have := cat_mk (Lib.decDigits N) [109]
      rw [hS] at this
      rw [← hM, show (⟨#[109]⟩ : ByteArray) = ⟨([109] : List UInt8).toArray⟩ from rfl, this, read_m hNb, hN]
    have hMs : M.size ≤ 20 := by rw [← hM, ByteArray.size_append]; have : (⟨#[109]⟩ : ByteArray).size = 1 := rfl; omega
    have HCM : Hid (∀ w, Tab w → Errs w → Calls Tryd.prog 39 #[.string T, .string M] w fun e w' => e = .returned (.tuple #[.int .i64 0, .bool true]) ∧ Below w.heap.size w w') := fun w h1 h2 => by
      have := i_CompareAmounts T M (by omega) (by omega) w h1 h2
      rw [cmpAmt_ok (by rw [hR]) (by rw [hRM]), hR, hRM] at this
      simp only [cmp_eq] at this
      exact this
    have hsz : ¬ 9223372036854775807 < S.size + 1 := by omega
    have h0' : 0 ≤ n := by omega
    clear hR hTs hN hNb hS hSs hRM hMs HTN HA H15
    go_wp2_with fail
    refine (HT0.out _ (HT.out.below hb1)).mono ?_
    rintro e w2 ⟨rfl, hb2⟩
    have hg2 := hb1.trans (hb2.mono hb1.size)
    clear hb2
    go_wp2_with fail
    refine (HRT.out _ (HT.out.below hg2) (HE.out.below hg2)).mono ?_
    rintro e w3 ⟨rfl, hb3⟩
    have hg3 := hg2.trans (hb3.mono hg2.size)
    clear hb3
    go_wp2_with fail
    refine (HNT.out _ (HT.out.below hg3) (HE.out.below hg3)).mono ?_
    rintro e w4 ⟨rfl, hb4⟩
    have hg4 := hg3.trans (hb4.mono hg3.size)
    clear hb4
    go_wp2_with fail
    refine (HIT.out _ (HT.out.below hg4)).mono ?_
    rintro e w5 ⟨rfl, hb5⟩
    have hg5 := hg4.trans (hb5.mono hg4.size)
    clear hb5
    go_wp2_with fail
    refine (HCM.out _ (HT.out.below hg5) (HE.out.below hg5)).mono ?_
    rintro e w6 ⟨rfl, hb6⟩
    have hg6 := hg5.trans (hb6.mono hg5.size)
    go_wp2_with fail
    go_ret
    exact ⟨rfl, hg6⟩
end Go.Proofs.YtpbflceekikbiaaDoor
