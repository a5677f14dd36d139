/-
  The law FnFrames. No conditions.
-/
import Derived.Test.YtfelhmcejkbpfaaWFrames
import Derived.Test.YtfelhmcejkbpfaaWReadLaws
namespace Go.Proofs.Ytfelhmcejkbpfaa
open Go.ChangeShapes Go.WideShapes Go.ChangeAt Go.RowKit

theorem walk_FnFrames (a : Option Addr) (len cap : Nat) (zs : List Int) (w : World) (hz : IsRow .u8 w a len cap zs) : Calls Try.prog 14 #[.slice a len cap] w fun e w' => e = .returned (.bool true) ∧ Below w.heap.size w w' := by
  have HC := Lib.hid (code_of hz)
  have hm : len ≤ 9223372036854775807 := by
    rcases hz with ⟨_, rfl, _⟩ | ⟨x, _, hl, hm, _⟩
    · omega
    · unfold maxLen at hm; omega
  clear hz
  by_cases hb : (1048576 : Int) < (len : Int)
  · have hd : decide ((1048576 : Int) < (len : Int)) = true := by simpa using hb
    go_enter Try.func14, Try.ntmps14
    go_wp2_with (go_at_call 27; refine (l_big _ _ _ _ hm).mono ?_; rintro e w' ⟨rfl, rfl⟩)
    go_ret
    exact ⟨rfl, Below.refl _ _⟩
  · go_enter Try.func14, Try.ntmps14
    go_wp2_with (go_at_call 27; refine (l_big _ _ _ _ hm).mono ?_; rintro e w' ⟨rfl, rfl⟩)
    refine (s_DrawFrameText w a len cap (by omega) HC.out).mono ?_
    rintro e w1 ⟨v, l, rfl, hv0, hv1, hl, hb1⟩
    have hs1 := hb1.size
    obtain ⟨p, hp⟩ : ∃ p : ByteArray, (⟨l.toArray⟩ : ByteArray) = p := ⟨_, rfl⟩
    have hpn : p.size ≤ 20000 := by rw [← hp, mk_size]; omega
    rw [hp]
    clear hp hl
    obtain ⟨ok, hok⟩ : ∃ ok, frOk v p = ok := ⟨_, rfl⟩
    have HOK : Hid (∀ w, Calls Try.prog 43 #[.agg #[.int .i64 v, .string p]] w fun e w' => e = .returned (.bool ok) ∧ Below w.heap.size w w') := fun w => by rw [← hok]; exact s_FrameOk v p w
    have HOKi : Hid (∀ w, Calls Try.prog 44 #[.agg #[.int .i64 v, .string p]] w fun e w' => e = .returned (.bool ok) ∧ Below w.heap.size w w') := fun w => by rw [← hok]; exact i_FrameOk v p w
    cases ok
    · have HT : Hid (∀ w, Calls Try.prog 32 #[.agg #[.int .i64 v, .string p]] w fun e w' => e = .returned (.string ⟨#[]⟩) ∧ Below w.heap.size w w') := fun w => by
        have := i_FrameText v p (by omega) w
        rw [text_not hok] at this
        exact this
      have HZ : Hid (∀ w, Calls Try.prog 34 #[.agg #[.int .i64 1, .string ⟨#[]⟩]] w fun e w' => e = .returned (.int .i64 14) ∧ Below w.heap.size w w') := fun w => by
        have := i_FrameSize 1 ⟨#[]⟩ (by omega) w
        rw [text_size (fr_mk (by omega) (by omega) (by decide))] at this
        exact this
      clear hok
      go_wp2_with fail
      have hB1 := Box.new w1 (.int .i64 v) (.string p)
      have hlt : w1.heap.size < (w1.alloc (.cells #[.int .i64 v, .string p] 37)).heap.size := hB1.lt
      obtain ⟨W, hW⟩ : ∃ W, w1.alloc (.cells #[.int .i64 v, .string p] 37) = W := ⟨_, rfl⟩
      have hbW : Below w1.heap.size w1 W := by rw [← hW]; exact (Below.refl _ _).alloc (Nat.le_refl _) _
      rw [hW] at hB1 hlt ⊢
      clear hW
      have k0 := hB1.c0
      have k1 := hB1.c1
      refine (HT.out _).mono ?_
      rintro e w2 ⟨rfl, hb2⟩
      have hB2 := hB1.below hb2 hlt
      have hs2 := hb2.size
      clear k0 k1
      have k0 := hB2.c0
      have k1 := hB2.c1
      go_wp2_with fail
      refine (HOK.out _).mono ?_
      rintro e w3 ⟨rfl, hb3⟩
      have hB3 := hB2.below hb3 (by omega)
      have hs3 := hb3.size
      clear k0 k1
      have k0 := hB3.c0
      have k1 := hB3.c1
      go_wp2_with fail
      refine (HOKi.out _).mono ?_
      rintro e w4 ⟨rfl, hb4⟩
      have hs4 := hb4.size
      go_wp2_with fail
      refine (HZ.out _).mono ?_
      rintro e w5 ⟨rfl, hb5⟩
      have hs5 := hb5.size
      go_wp2_with fail
      go_ret
      exact ⟨rfl, hb1.trans ((hbW.mono hs1).trans ((hb2.mono (by omega)).trans ((hb3.mono (by omega)).trans ((hb4.mono (by omega)).trans (hb5.mono (by omega))))))⟩
    · obtain ⟨f1, f2, f3⟩ := fr_parts hok
      obtain ⟨T, hT⟩ : ∃ T, frText v p = T := ⟨_, rfl⟩
      obtain ⟨u, hu⟩ : ∃ u, 1 + v % 9 = u := ⟨_, rfl⟩
      have hu1 : 1 ≤ u ∧ u ≤ 9 := by omega
      have hok2 : frOk u p = true := fr_mk hu1.1 hu1.2 f3
      obtain ⟨T2, hT2⟩ : ∃ T2, frText u p = T2 := ⟨_, rfl⟩
      have hTs : T.size = 14 + p.size := by rw [← hT]; exact text_size hok
      have hT2s : T2.size = 14 + p.size := by rw [← hT2]; exact text_size hok2
      have hrd := rd_text hok
      have hrd2 := rd_text hok2
      obtain ⟨C, hC⟩ : ∃ C, T.extract 0 (13 + p.size) = C := ⟨_, rfl⟩
      have hcut := rd_cut hok (t := C) (by rw [← hC, hT])
      have hCs : C.size = 13 + p.size := by rw [← hC]; exact ext_size _ _ (by omega)
      rw [hT] at hrd
      rw [hT2] at hrd2
      have HT : Hid (∀ w, Calls Try.prog 32 #[.agg #[.int .i64 v, .string p]] w fun e w' => e = .returned (.string T) ∧ Below w.heap.size w w') := fun w => by rw [← hT]; exact i_FrameText v p (by omega) w
      have HZ : Hid (∀ w, Calls Try.prog 34 #[.agg #[.int .i64 v, .string p]] w fun e w' => e = .returned (.int .i64 (14 + (p.size : Int))) ∧ Below w.heap.size w w') := fun w => by
        have := i_FrameSize v p (by omega) w
        rw [text_size hok] at this
        exact this
      have HR : Hid (∀ w, Calls Try.prog 40 #[.string T] w fun e w' => e = .returned (.tuple #[.agg #[.int .i64 v, .string p], .int .i64 0]) ∧ Below w.heap.size w w') := fun w => by
        have := i_ReadFrame T (by omega) w
        rw [hrd.1, hrd.2] at this
        exact this
      have HR2 : Hid (∀ w, Calls Try.prog 40 #[.string T2] w fun e w' => e = .returned (.tuple #[.agg #[.int .i64 u, .string p], .int .i64 0]) ∧ Below w.heap.size w w') := fun w => by
        have := i_ReadFrame T2 (by omega) w
        rw [hrd2.1, hrd2.2] at this
        exact this
      obtain ⟨k, hk⟩ : ∃ k, rdCode C = k := ⟨_, rfl⟩
      have HRC : Hid (∀ w, Calls Try.prog 40 #[.string C] w fun e w' => e = .returned (.tuple #[.agg #[.int .i64 0, .string ⟨#[]⟩], .int .i64 ((k : Nat) : Int)]) ∧ Below w.heap.size w w') := fun w => by
        have := i_ReadFrame C (by omega) w
        rw [rd_zero hcut, hk] at this
        exact this
      have HV : Hid (∀ w, Calls Try.prog 38 #[.string T] w fun e w' => e = .returned (.tuple #[.int .i64 v, .int .i64 0]) ∧ Below w.heap.size w w') := fun w => by
        have := i_VersionIn T (by omega) w
        rw [hrd.1, hrd.2] at this
        exact this
      have HRe : Hid (∀ w, Calls Try.prog 45 #[.string T, .int .i64 u] w fun e w' => e = .returned (.string T2) ∧ Below w.heap.size w w') := fun w => by
        have := i_Reframed T u (by omega) (by omega) w
        rw [← hT, re_text hok, hT2, hT] at this
        exact this
      have hk0 : ((k : Nat) : Int) ≠ 0 := by rw [hk] at hcut; omega
      have hkb : (((k : Nat) : Int) != 0) = true := bne_iff_ne.2 hk0
      have hTne : (T.toList == []) = false := by
        rw [ByteArray.toList_eq, beq_eq_false_iff_ne]
        intro h0
        have := list_size T
        rw [h0] at this
        simp at this
        omega
      have hTne2 : T.toList.isEmpty = false := by
        rw [ByteArray.toList_eq, Bool.eq_false_iff]
        intro h0
        have := list_size T
        rw [List.isEmpty_iff.1 h0] at this
        simp at this
        omega
      have HCe := Lib.hid hC
      have hum : Int.tmod v 9 = v % 9 := Int.tmod_eq_emod_of_nonneg (by omega)
      clear hok hok2 hrd hrd2 hcut hk hk0 hT hT2 hC
      go_wp2_with fail
      have hF := Box.new w1 (.int .i64 v) (.string p)
      have hlt : w1.heap.size < (w1.alloc (.cells #[.int .i64 v, .string p] 37)).heap.size := hF.lt
      obtain ⟨W, hW⟩ : ∃ W, w1.alloc (.cells #[.int .i64 v, .string p] 37) = W := ⟨_, rfl⟩
      have hbW : Below w1.heap.size w1 W := by rw [← hW]; exact (Below.refl _ _).alloc (Nat.le_refl _) _
      rw [hW] at hF hlt ⊢
      clear hW
      obtain ⟨gF, hgF⟩ : ∃ g, w1.heap.size = g := ⟨_, rfl⟩
      have hgF1 : w.heap.size ≤ gF := by omega
      have hBW : Below w.heap.size w W := hb1.trans (hbW.mono hs1)
      rw [hgF] at hF hlt ⊢
      clear hgF hbW hb1
      have k0 := hF.c0
      have k1 := hF.c1
      refine (HT.out _).mono ?_
      rintro e w2 ⟨rfl, hb2⟩
      have hF2 := hF.below hb2 hlt
      have hB2 := hBW.trans (hb2.mono (by omega))
      have hs2 := hb2.size
      clear k0 k1 hb2 hF hBW
      have k0 := hF2.c0
      have k1 := hF2.c1
      go_wp2_with fail
      refine (HOK.out _).mono ?_
      rintro e w3 ⟨rfl, hb3⟩
      have hF3 := hF2.below hb3 (by omega)
      have hB3 := hB2.trans (hb3.mono (by omega))
      have hs3 := hb3.size
      clear k0 k1 hb3 hF2 hB2
      go_wp2_with fail
      refine (HR.out _).mono ?_
      rintro e w4 ⟨rfl, hb4⟩
      have hF4 := hF3.below hb4 (by omega)
      have hB4 := hB3.trans (hb4.mono (by omega))
      have hs4 := hb4.size
      clear hb4 hF3 hB3
      go_wp2_with fail
      have hG := Box.new w4 (.int .i64 v) (.string p)
      have hF5 := hF4.below ((Below.refl _ w4).alloc (Nat.le_refl _) (.cells #[.int .i64 v, .string p] 37)) (by omega)
      have hB5 := hB4.alloc (by omega) (.cells #[.int .i64 v, .string p] 37)
      have hlt5 : w4.heap.size < (w4.alloc (.cells #[.int .i64 v, .string p] 37)).heap.size := hG.lt
      obtain ⟨gG, hgG⟩ : ∃ g, w4.heap.size = g := ⟨_, rfl⟩
      obtain ⟨W5, hW5⟩ : ∃ W, w4.alloc (.cells #[.int .i64 v, .string p] 37) = W := ⟨_, rfl⟩
      rw [hW5] at hG hF5 hB5 hlt5 ⊢
      rw [hgG] at hG hlt5 ⊢
      have hgFG : gF < gG := by omega
      clear hW5 hgG hF4 hB4
      refine (HV.out _).mono ?_
      rintro e w6 ⟨rfl, hb6⟩
      have hF6 := hF5.below hb6 (by omega)
      have hG6 := hG.below hb6 (by omega)
      have hB6 := hB5.trans (hb6.mono (by omega))
      have hs6 := hb6.size
      clear hb6 hF5 hG hB5
      go_wp2_with fail
      rw [HCe.out]
      refine (HRC.out _).mono ?_
      rintro e w7 ⟨rfl, hb7⟩
      have hF7 := hF6.below hb7 (by omega)
      have hG7 := hG6.below hb7 (by omega)
      have hB7 := hB6.trans (hb7.mono (by omega))
      have hs7 := hb7.size
      have k0 := hF7.c0
      have hsz7 : gF < w7.heap.size := hF7.lt
      clear hb7 hF6 hG6 hB6
      go_wp2_with fail
      have hS := Box.new w7 (.int .i64 0) (.string ⟨#[]⟩)
      have hF8 := hF7.below ((Below.refl _ w7).alloc (Nat.le_refl _) (.cells #[.int .i64 0, .string ⟨#[]⟩] 37)) (by omega)
      have hG8 := hG7.below ((Below.refl _ w7).alloc (Nat.le_refl _) (.cells #[.int .i64 0, .string ⟨#[]⟩] 37)) (by omega)
      have hB8 := hB7.alloc (by omega) (.cells #[.int .i64 0, .string ⟨#[]⟩] 37)
      have hlt8 : w7.heap.size < (w7.alloc (.cells #[.int .i64 0, .string ⟨#[]⟩] 37)).heap.size := hS.lt
      obtain ⟨W8, hW8⟩ : ∃ W, w7.alloc (.cells #[.int .i64 0, .string ⟨#[]⟩] 37) = W := ⟨_, rfl⟩
      rw [hW8] at hF8 hG8 hB8 hlt8 ⊢
      clear hW8 hF7 hG7 hB7 hS k0
      refine (HRe.out _).mono ?_
      rintro e w9 ⟨rfl, hb9⟩
      have hF9 := hF8.below hb9 (by omega)
      have hG9 := hG8.below hb9 (by omega)
      have hB9 := hB8.trans (hb9.mono (by omega))
      have hs9 := hb9.size
      clear hb9 hF8 hG8 hB8
      go_wp2_with fail
      refine (HR2.out _).mono ?_
      rintro e w10 ⟨rfl, hb10⟩
      have hFa := hF9.below hb10 (by omega)
      have hGa := hG9.below hb10 (by omega)
      have hBa := hB9.trans (hb10.mono (by omega))
      have hs10 := hb10.size
      have k0 := hFa.c0
      have k1 := hFa.c1
      have k2 := hGa.c0
      have k3 := hGa.c1
      have hszF : gF < w10.heap.size := hFa.lt
      have hszG : gG < w10.heap.size := hGa.lt
      clear hb10 hF9 hG9 hB9
      go_wp2_with fail
      have hH := Box.new w10 (.int .i64 u) (.string p)
      have hFb := hFa.below ((Below.refl _ w10).alloc (Nat.le_refl _) (.cells #[.int .i64 u, .string p] 37)) (by omega)
      have hBb := hBa.alloc (by omega) (.cells #[.int .i64 u, .string p] 37)
      have hltb : w10.heap.size < (w10.alloc (.cells #[.int .i64 u, .string p] 37)).heap.size := hH.lt
      obtain ⟨gH, hgH⟩ : ∃ g, w10.heap.size = g := ⟨_, rfl⟩
      obtain ⟨Wb, hWb⟩ : ∃ W, w10.alloc (.cells #[.int .i64 u, .string p] 37) = W := ⟨_, rfl⟩
      rw [hWb] at hH hFb hBb hltb ⊢
      rw [hgH] at hH hltb hszF ⊢
      clear hWb hgH hFa hGa hBa k0 k1 k2 k3
      refine (HZ.out _).mono ?_
      rintro e wc ⟨rfl, hbc⟩
      have hFc := hFb.below hbc (by omega)
      have hHc := hH.below hbc (by omega)
      have hBc := hBb.trans (hbc.mono (by omega))
      have k0 := hFc.c0
      have k1 := hFc.c1
      have k2 := hHc.c0
      have k3 := hHc.c1
      clear hbc hFb hH hBb
      go_wp2_with fail
      go_ret
      exact ⟨rfl, hBc⟩
end Go.Proofs.Ytfelhmcejkbpfaa
