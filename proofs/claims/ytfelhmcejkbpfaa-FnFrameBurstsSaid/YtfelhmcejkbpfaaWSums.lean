/-
  The law FnSums. No conditions.
-/
import Derived.Test.YtfelhmcejkbpfaaDrawS
import Derived.Deep.RegionHeld3
import Derived.Deep.RegionWith
namespace Go.Proofs.Ytfelhmcejkbpfaa
open Go.ChangeShapes Go.WideShapes Go.ChangeAt Go.RowKit

theorem unseal_seal (l : List UInt8) (h : l.length ≤ 20000) : unsealR ⟨(Crc.sealedL l).toArray⟩ = (⟨l.toArray⟩, true) := by
  have hl : (Crc.sealedL l).length = l.length + 4 := by unfold Crc.sealedL; rw [List.length_append, Crc.fix_length]
  have ht : (Crc.sealedL l).take l.length = l := by unfold Crc.sealedL; exact List.take_left
  have hs : (⟨(Crc.sealedL l).toArray⟩ : ByteArray).size - 4 = l.length := by rw [mk_size, hl]; omega
  unfold unsealR
  rw [hs, mk_data, ht, if_pos ⟨by rw [mk_size, hl]; omega, by rw [mk_size, hl]; omega, rfl⟩]
  refine Prod.ext ?_ rfl
  apply ByteArray.ext
  apply Array.toList_inj.1
  rw [ext_to, mk_data, ht]
theorem ext_drop (s : ByteArray) (k : Nat) : (s.extract k s.size).data.toList = s.data.toList.drop k := by
  have := ext_from s k
  rwa [ByteArray.toList_eq] at this
theorem sum_check : Crc.sumOf [49, 50, 51, 52, 53, 54, 55, 56, 57] = 3421780262 := by decide +kernel
theorem sum_back (N : Nat) (h : N < 2 ^ 32) : bits .xor .i64 ((N ^^^ Crc.F : Nat) : Int) 4294967295 = (N : Int) := by
  have h2 : N ^^^ Crc.F < 2 ^ 32 := Nat.xor_lt_two_pow h (by unfold Crc.F; omega)
  rw [show (4294967295 : Int) = ((Crc.F : Nat) : Int) from rfl, xor_i64 _ _ (by omega) (by unfold Crc.F; omega), Nat.xor_assoc, Nat.xor_self, Nat.xor_zero]

theorem walk_FnSums (a : Option Addr) (len cap : Nat) (zs : List Int) (w : World) (hz : IsRow .u8 w a len cap zs) : Calls Try.prog 8 #[.slice a len cap] w fun e w' => e = .returned (.bool true) ∧ Below w.heap.size w w' := by
  have HC := Lib.hid (code_of hz)
  have hm : len ≤ 9223372036854775807 := by
    rcases hz with ⟨_, rfl, _⟩ | ⟨x, _, hl, hm, _⟩
    · omega
    · unfold maxLen at hm; omega
  clear hz
  by_cases hb : (1048576 : Int) < (len : Int)
  · have hd : decide ((1048576 : Int) < (len : Int)) = true := by simpa using hb
    go_enter Try.func8, Try.ntmps8
    go_wp2_with (go_at_call 27; refine (l_big _ _ _ _ hm).mono ?_; rintro e w' ⟨rfl, rfl⟩)
    go_ret
    exact ⟨rfl, Below.refl _ _⟩
  · go_enter Try.func8, Try.ntmps8
    go_wp2_with (go_at_call 27; refine (l_big _ _ _ _ hm).mono ?_; rintro e w' ⟨rfl, rfl⟩)
    refine (s_DrawSealed w a len cap (by omega) HC.out).mono ?_
    rintro e w1 ⟨l, rfl, hl, hb1⟩
    have hs1 := hb1.size
    obtain ⟨t, ht⟩ : ∃ t : ByteArray, (⟨l.toArray⟩ : ByteArray) = t := ⟨_, rfl⟩
    have htl : t.data.toList = l := by rw [← ht, mk_data]
    have htn : t.size = l.length := by rw [← ht, mk_size]
    rw [ht]
    have hcase : ∃ (s1 : ByteArray) (ok rt : Bool) (u1 : ByteArray), sealR t = (s1, ok) ∧ unsealR s1 = (u1, rt) ∧ s1.size ≤ 30000 ∧ ((ok = true ∧ rt = true ∧ u1 = t ∧ ((s1.size : Int) = (t.size : Int) + 4) ∧ (t.size : Int) ≤ 20000) ∨ (ok = false ∧ ¬ (t.size : Int) ≤ 20000)) := by
      by_cases h : l.length ≤ 20000
      · refine ⟨_, _, true, t, by rw [← ht]; exact seal_mk l h, by rw [← ht]; exact unseal_seal l h, ?_, .inl ⟨rfl, rfl, rfl, ?_, by omega⟩⟩
        all_goals
          have hq : (Crc.sealedL l).length = l.length + 4 := by unfold Crc.sealedL; rw [List.length_append, Crc.fix_length]
          rw [mk_size]
          omega
      · exact ⟨⟨#[]⟩, false, false, ⟨#[]⟩, if_neg (by omega), if_neg (by decide), by decide, .inr ⟨rfl, by omega⟩⟩
    obtain ⟨s1, ok, rt, u1, h1, h2, h3, h4⟩ := hcase
    have HS1 : Hid (∀ w, Calls Try.prog 24 #[.string t] w fun e w' => e = .returned (.tuple #[.string s1, .bool ok]) ∧ Below w.heap.size w w') := fun w => by
      have := i_Sealed t (by omega) w
      rw [h1] at this
      exact this
    have HU1 : Hid (∀ w, Calls Try.prog 26 #[.string s1] w fun e w' => e = .returned (.tuple #[.string u1, .bool rt]) ∧ Below w.heap.size w w') := fun w => by
      have := i_Unsealed s1 (by omega) w
      rw [h2] at this
      exact this
    obtain ⟨n, hn⟩ : ∃ n, l.length = n := ⟨_, rfl⟩
    obtain ⟨H, hH⟩ : ∃ H, n / 2 = H := ⟨_, rfl⟩
    obtain ⟨N, hN⟩ : ∃ N, Crc.more Crc.F l = N := ⟨_, rfl⟩
    obtain ⟨M, hM⟩ : ∃ M, Crc.more Crc.F (l.take H) = M := ⟨_, rfl⟩
    have hMN : Crc.more M (l.drop H) = N := by rw [← hM, ← Crc.more_append, List.take_append_drop, hN]
    have hM32 : M < 2 ^ 32 := by rw [← hM]; exact Crc.more_lt _ (by unfold Crc.F; omega)
    have hN32 : N < 2 ^ 32 := by rw [← hN]; exact Crc.more_lt _ (by unfold Crc.F; omega)
    obtain ⟨U0, hU⟩ : ∃ U0, t.extract 0 H = U0 := ⟨_, rfl⟩
    obtain ⟨T0, hT⟩ : ∃ T0, t.extract H t.size = T0 := ⟨_, rfl⟩
    have HM1 : Hid (∀ w, Calls Try.prog 20 #[.int .i64 4294967295, .string U0] w fun e w' => e = .returned (.int .i64 (M : Int)) ∧ w = w') := fun w => by
      have := i_SumMore 4294967295 U0 (by rw [← hU, ext_size _ _ (by omega)]; omega) w
      rw [smV_F, ← hU, ext_to, htl, hM, hU] at this
      exact this
    have HM2 : Hid (∀ w, Calls Try.prog 20 #[.int .i64 (M : Int), .string T0] w fun e w' => e = .returned (.int .i64 (N : Int)) ∧ w = w') := fun w => by
      have := i_SumMore (M : Int) T0 (by rw [← list_size, ← hT, ext_drop, List.length_drop, list_size]; omega) w
      rw [show smV (M : Int) T0.data.toList = ((Crc.more M T0.data.toList : Nat) : Int) from if_pos ⟨by omega, by omega⟩, ← hT, ext_drop, htl, hMN, hT] at this
      exact this
    have HZ : Hid (∀ w, Calls Try.prog 22 #[.string t] w fun e w' => e = .returned (.int .i64 ((N ^^^ Crc.F : Nat) : Int)) ∧ w = w') := fun w => by
      have := i_SumOf t (by omega) w
      rw [htl, show Crc.sumOf l = N ^^^ Crc.F by rw [← hN]; rfl] at this
      exact this
    have HQ : Hid (∀ w, Calls Try.prog 22 #[.string ⟨#[49, 50, 51, 52, 53, 54, 55, 56, 57]⟩] w fun e w' => e = .returned (.int .i64 3421780262) ∧ w = w') := fun w => by
      have := i_SumOf ⟨#[49, 50, 51, 52, 53, 54, 55, 56, 57]⟩ (by decide) w
      rw [show Crc.sumOf (⟨#[49, 50, 51, 52, 53, 54, 55, 56, 57]⟩ : ByteArray).data.toList = 3421780262 from sum_check] at this
      exact this
    have hsl1 : ∀ w, (Instr.slice 9 (.string t) none (some (.int .i64 (H : Int))) none).run Try.prog w = .ok (.string U0) w := fun w => by
      rw [run_slice_string_to_if w 9 t .i64 _ Try.underlying9, if_pos ⟨by omega, by omega⟩, show ((H : Nat) : Int).toNat = H from rfl, hU]
    have hsl2 : ∀ w, (Instr.slice 9 (.string t) (some (.int .i64 (H : Int))) none none).run Try.prog w = .ok (.string T0) w := fun w => by
      rw [run_slice_string_from_if w 9 t .i64 _ Try.underlying9, if_pos ⟨by omega, by omega⟩, show ((H : Nat) : Int).toNat = H from rfl, hT]
    have hbk := sum_back N hN32
    obtain ⟨Z, hZ⟩ : ∃ Z : Int, ((N ^^^ Crc.F : Nat) : Int) = Z := ⟨_, rfl⟩
    rw [hZ] at HZ hbk
    have ed : (t.size : Int) / 2 = (H : Int) := by omega
    have et : Int.tdiv (t.size : Int) 2 = (H : Int) := by rw [Int.tdiv_eq_ediv_of_nonneg (by omega)]; exact ed
    have htmax : t.size ≤ 20001 := by omega
    clear hZ hN hM hMN hM32 hN32 hU hT hH hn h1 h2 ht htl htn hl
    rcases h4 with ⟨rfl, rfl, rfl, h5, h6⟩ | ⟨rfl, h6⟩
    all_goals
      try have h7 := Lib.hid h6
      go_wp2_with fail
      refine (HS1.out _).mono ?_
      rintro e w2 ⟨rfl, hb2⟩
      have hs2 := hb2.size
      go_wp2_with fail
      refine (HU1.out _).mono ?_
      rintro e w3 ⟨rfl, hb3⟩
      have hs3 := hb3.size
      go_wp2_with fail
      go_region_held3 (fun _ : World => True) (exact trivial) (first | (go_at_call_of 20 (Value.string U0); refine (HM1.out _).mono ?_; rintro e w' ⟨rfl, rfl⟩) | (go_at_call_of 20 (Value.string T0); refine (HM2.out _).mono ?_; rintro e w' ⟨rfl, rfl⟩))
      go_wp2_with fail
      refine (HQ.out _).mono ?_
      rintro e w' ⟨rfl, rfl⟩
      go_wp2_with fail
      refine (HZ.out _).mono ?_
      rintro e w' ⟨rfl, rfl⟩
      go_wp2_with fail
      go_ret
      refine ⟨by first | rfl | (show Ending.returned (.bool (!decide ((t.size : Int) ≤ 20000))) = _; rw [decide_eq_false (by have := h7.out; omega)]; rfl), ?_⟩
      have hbb := hb1.trans ((hb2.mono hs1).trans (hb3.mono (by omega)))
      first | exact hbb | exact hbb.drew | exact below_drewN hbb _
end Go.Proofs.Ytfelhmcejkbpfaa
