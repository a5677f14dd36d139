/-
  ReadFrame of spec. No conditions.
-/
import Derived.Test.YtfelhmcejkbpfaaWReadFr
import Derived.IntWalk
import Derived.StillTailTactics
namespace Go.Proofs.Ytfelhmcejkbpfaa
open Go.ChangeShapes Go.WideShapes Go.ChangeAt Go.RowKit

theorem box_free {w w1 : World} {x y : Value} {t : TypeId} (h : Below (w.alloc (.cells #[x, y] t)).heap.size (w.alloc (.cells #[x, y] t)) w1) : w1.frozen? ⟨w.heap.size, 0, none⟩ = false ∧ w1.frozen? ⟨w.heap.size, 1, none⟩ = false := by
  have hn := heap_alloc_new w (.cells #[x, y] t)
  refine ⟨?_, ?_⟩
  · rw [h.frozen (by simp), frozen_of_row _ _ 0 _ _ hn]
  · rw [h.frozen (by simp), frozen_of_row _ _ 1 _ _ hn]

theorem two_set {w1 : World} {g : Nat} {x y : Value} (h0 : w1.cell? ⟨g, 0, none⟩ = some x) (h1 : w1.cell? ⟨g, 1, none⟩ = some y) :
    (∀ a, (w1.setCell ⟨g, 0, none⟩ a).cell? ⟨g, 0, none⟩ = some a) ∧ ∀ a b, ((w1.setCell ⟨g, 0, none⟩ a).setCell ⟨g, 1, none⟩ b).cell? ⟨g, 1, none⟩ = some b :=
  ⟨fun a => World.cell?_setCell_same w1 _ a h0, fun a b => World.cell?_setCell_same _ _ b ((World.cell?_setCell_other w1 _ _ a (by simp)).trans h1)⟩

set_option maxHeartbeats 1000000 in
theorem s_ReadFrame (s : ByteArray) (hs : s.size ≤ 2147483648) (w : World) : Calls Try.prog 39 #[.string s] w fun e w' => e = .returned (.tuple #[.agg #[.int .i64 (rdFr s).1, .string (rdFr s).2], .int .i64 ((rdCode s : Nat) : Int)]) ∧ Below w.heap.size w w' := by
  have hp := pre_list s
  by_cases h1 : (s.size : Int) - 14 < 0
  · have hk : rdCode s = 1 := if_pos (by omega)
    have HR := rd_not hk (by decide)
    have HK := Lib.hid hk
    clear hk
    go_enter Try.func39, Try.ntmps39
    go_wp2_with fail
    (try simp only [Exit.inBlock, Exit.then])
    refine bodyPost_ret (v := .tuple #[.agg #[.int .i64 0, .string ⟨#[]⟩], .int .i64 1]) ?_ rfl ⟨ret_fr HR.out (by rw [HK.out]; rfl), by go_grown⟩
    simp [results, Try.results39, go_sem]
  · by_cases h2 : s.data.toList.take 5 = magic
    · have ht : ((s.extract 0 5).toList == [66, 69, 82, 84, 72]) = true := by rw [hp, h2]; decide
      clear hp
      have hver := frVer_at s (by omega)
      obtain ⟨x, hx⟩ : ∃ x : Int, ((s[5]'(by omega)).toNat : Int) = x := ⟨_, rfl⟩
      have hxV : ((frVer s : Nat) : Int) = x := by rw [← hver, hx]
      have h5 : (5 : Int) < (s.size : Int) := by omega
      have hxb := rf_byte s 5 (by omega)
      rw [hx] at hxb
      obtain ⟨hx0, hx1⟩ := hxb
      by_cases h3 : 1 ≤ x ∧ x ≤ 9
      · have HI : Hid (inB x 1 9 = true) := inB_t h3
        have h3' : 1 ≤ frVer s ∧ frVer s ≤ 9 := by omega
        obtain ⟨N, hN⟩ : ∃ N, rfN s 6 4 = N := ⟨_, rfl⟩
        have HF1 : Hid (rf s 6 4 = ((N : Int), true)) := rf4 (p := 6) rfl (by omega) hN
        have hNlt := rf_lt s 6 4 (by omega)
        rw [hN] at hNlt
        by_cases h4 : N ≠ s.size - 14 ∨ 19980 < s.size - 14
        · have hk : rdCode s = 4 := by
            unfold rdCode
            rw [if_neg (by omega), if_neg (not_not_intro h2), if_neg (not_not_intro h3'), hN, if_pos h4]
          have HR := rd_not hk (by decide)
          have HK := Lib.hid hk
          clear hk h2 hver hxV h3' hN
          have h4' : (((N : Int) != (s.size : Int) - 14) = true) ∨ ((((N : Int) != (s.size : Int) - 14) = false) ∧ (19980 : Int) < (s.size : Int) - 14) := by
            by_cases hq : (N : Int) = (s.size : Int) - 14
            · exact .inr ⟨by rw [hq]; simp, by omega⟩
            · exact .inl (bne_iff_ne.2 hq)
          clear h4
          rcases h4' with h4 | ⟨h4, h6⟩
          · go_enter Try.func39, Try.ntmps39
            go_wp2_with (first | (fail) | (go_at_call 47; refine (s_l01In _ _ _ _).mono ?_; rintro e w' ⟨rfl, rfl⟩; rw [HI.out]) | (go_at_call 56; refine (s_ReadFixed s 6 4 hs (by omega) _).mono ?_; rintro e w' ⟨rfl, rfl⟩; rw [HF1.out]))
            (try simp only [Exit.inBlock, Exit.then])
            refine bodyPost_ret (v := .tuple #[.agg #[.int .i64 0, .string ⟨#[]⟩], .int .i64 4]) ?_ rfl ⟨ret_fr HR.out (by rw [HK.out]; rfl), by go_grown⟩
            simp [results, Try.results39, go_sem]
          · go_enter Try.func39, Try.ntmps39
            go_wp2_with (first | (fail) | (go_at_call 47; refine (s_l01In _ _ _ _).mono ?_; rintro e w' ⟨rfl, rfl⟩; rw [HI.out]) | (go_at_call 56; refine (s_ReadFixed s 6 4 hs (by omega) _).mono ?_; rintro e w' ⟨rfl, rfl⟩; rw [HF1.out]))
            (try simp only [Exit.inBlock, Exit.then])
            refine bodyPost_ret (v := .tuple #[.agg #[.int .i64 0, .string ⟨#[]⟩], .int .i64 4]) ?_ rfl ⟨ret_fr HR.out (by rw [HK.out]; rfl), by go_grown⟩
            simp [results, Try.results39, go_sem]
        · obtain ⟨Y, hY⟩ : ∃ Y, Crc.sumOf (s.data.toList.take (s.size - 4)) = Y := ⟨_, rfl⟩
          obtain ⟨Z, hZ⟩ : ∃ Z, rfN s (s.size - 4) 4 = Z := ⟨_, rfl⟩
          have hiff := seal_iff s (by omega)
          rw [hY, hZ] at hiff
          have hsz : s.size = N + 14 := by omega
          have HUn0 : ∀ w, Calls Try.prog 25 #[.string s] w fun e w' => e = .returned (.tuple #[.string (unsealR s).1, .bool (unsealR s).2]) ∧ Below w.heap.size w w' := fun w => s_Unsealed s hs w
          by_cases h6 : Y = Z
          · have hk : rdCode s = 0 := by
              unfold rdCode
              rw [if_neg (by omega), if_neg (not_not_intro h2), if_neg (not_not_intro h3'), hN, if_neg h4, if_neg (not_not_intro (hiff.2 h6))]
            obtain ⟨PP, hPP⟩ : ∃ PP, s.extract 10 (s.size - 4) = PP := ⟨_, rfl⟩
            have HR : Hid (rdFr s = (x, PP)) := by
              unfold Hid rdFr
              rw [if_pos hk, hxV, hPP]
            have hs3 : ∀ w, (Instr.slice 9 (.string s) (some (.int .i64 10)) (some (.int .i64 (10 + (N : Int)))) none).run Try.prog w = .ok (.string PP) w := fun w => by
              have := slice_mid (P := Try.prog) (t := 9) w s 10 N Try.underlying9 (by omega)
              rw [show 10 + N = s.size - 4 by omega, hPP] at this
              exact this
            have HK := Lib.hid hk
            rw [show unsealR s = (s.extract 0 (s.size - 4), true) from if_pos ⟨by omega, by omega, hiff.2 h6⟩] at HUn0
            obtain ⟨U0, hU⟩ : ∃ U0, s.extract 0 (s.size - 4) = U0 := ⟨_, rfl⟩
            rw [hU] at HUn0
            have HUn := Lib.hid HUn0
            have h7 : ¬ (19980 : Int) < (N : Int) := by omega
            have h51 : (5 : Int) < (N : Int) + 14 := by omega
            have h52 : (5 : Int) ≤ (N : Int) + 14 := by omega
            have e1 : IntKind.i64.wrap (10 + (N : Int)) = 10 + (N : Int) := IntWalk.i64_in _ ⟨by omega, by omega⟩
            clear hk h2 hver hxV h3' hN hiff hU h4 hY hZ hPP HUn0 h6
            go_enter Try.func39, Try.ntmps39
            go_wp2_with (first | (fail) | (go_at_call 47; refine (s_l01In _ _ _ _).mono ?_; rintro e w' ⟨rfl, rfl⟩; rw [HI.out]) | (go_at_call 56; refine (s_ReadFixed s _ 4 hs (by omega) _).mono ?_; rintro e w' ⟨rfl, rfl⟩; first | rw [HF1.out] | rw [HF2.out]) | (go_at_call 25; refine (HUn.out _).mono ?_; rintro e w1 ⟨rfl, hb1⟩; obtain ⟨hc0, hc1⟩ := box_cells hb1; obtain ⟨hf0, hf1⟩ := box_free hb1; obtain ⟨hq0, hq1⟩ := two_set hc0 hc1))
            go_still_tail 8, (by kernel_rfl)
            change wpList _ _ _ _ _ w1.drew
            go_wp2_with fail
            (try simp only [Exit.inBlock, Exit.then])
            refine bodyPost_ret (v := .tuple #[.agg #[.int .i64 x, .string PP], .int .i64 0]) ?_ rfl ⟨ret_fr HR.out (by rw [HK.out]; rfl), by first | exact ((box_below hb1).setCell (Nat.le_refl _) _).setCell (Nat.le_refl _) _ | exact (((box_below hb1).setCell (Nat.le_refl _) _).setCell (Nat.le_refl _) _).drew⟩
            simp [results, Try.results39, go_sem, hq0, hq1]
          · have hk : rdCode s = 5 := by
              unfold rdCode
              rw [if_neg (by omega), if_neg (not_not_intro h2), if_neg (not_not_intro h3'), hN, if_neg h4, if_pos (fun hc => h6 (hiff.1 hc))]
            have HR := rd_not hk (by decide)
            have HK := Lib.hid hk
            have h7 : ¬ (19980 : Int) < (N : Int) := by omega
            rw [show unsealR s = (⟨#[]⟩, false) from if_neg (fun hc => h6 (hiff.1 hc.2.2))] at HUn0
            have HUn := Lib.hid HUn0
            clear hk h2 hver hxV h3' hN hiff h4 hY hZ h6 HUn0
            go_enter Try.func39, Try.ntmps39
            go_wp2_with (first | (fail) | (go_at_call 47; refine (s_l01In _ _ _ _).mono ?_; rintro e w' ⟨rfl, rfl⟩; rw [HI.out]) | (go_at_call 56; refine (s_ReadFixed s _ 4 hs (by omega) _).mono ?_; rintro e w' ⟨rfl, rfl⟩; first | rw [HF1.out] | rw [HF2.out]) | (go_at_call 25; refine (HUn.out _).mono ?_; rintro e w1 ⟨rfl, hb1⟩; obtain ⟨hc0, hc1⟩ := box_cells hb1; obtain ⟨hf0, hf1⟩ := box_free hb1; obtain ⟨hq0, hq1⟩ := two_set hc0 hc1))
            (try simp only [Exit.inBlock, Exit.then])
            refine bodyPost_ret (v := .tuple #[.agg #[.int .i64 0, .string ⟨#[]⟩], .int .i64 5]) ?_ rfl ⟨ret_fr HR.out (by rw [HK.out]; rfl), by first | exact ((box_below hb1).setCell (Nat.le_refl _) _).setCell (Nat.le_refl _) _ | exact (((box_below hb1).setCell (Nat.le_refl _) _).setCell (Nat.le_refl _) _).drew⟩
            simp [results, Try.results39, go_sem, hq0, hq1]
      · have HI : Hid (inB x 1 9 = false) := inB_f h3
        have hk : rdCode s = 3 := by
          unfold rdCode
          rw [if_neg (by omega), if_neg (not_not_intro h2), if_pos (by omega)]
        have HR := rd_not hk (by decide)
        have HK := Lib.hid hk
        clear hk h2 hver hxV h3
        go_enter Try.func39, Try.ntmps39
        go_wp2_with (first | (fail) | (go_at_call 47; refine (s_l01In _ _ _ _).mono ?_; rintro e w' ⟨rfl, rfl⟩; rw [HI.out]))
        (try simp only [Exit.inBlock, Exit.then])
        refine bodyPost_ret (v := .tuple #[.agg #[.int .i64 0, .string ⟨#[]⟩], .int .i64 3]) ?_ rfl ⟨ret_fr HR.out (by rw [HK.out]; rfl), by go_grown⟩
        simp [results, Try.results39, go_sem]
    · have hk : rdCode s = 2 := by
        unfold rdCode
        rw [if_neg (by omega), if_pos h2]
      have HR := rd_not hk (by decide)
      have HK := Lib.hid hk
      have ht : ((s.extract 0 5).toList == [66, 69, 82, 84, 72]) = false := by rw [hp]; exact beq_eq_false_iff_ne.2 h2
      have h5 : (5 : Int) ≤ (s.size : Int) := by omega
      clear hp
      clear hk h2
      go_enter Try.func39, Try.ntmps39
      go_wp2_with (fail)
      (try simp only [Exit.inBlock, Exit.then])
      refine bodyPost_ret (v := .tuple #[.agg #[.int .i64 0, .string ⟨#[]⟩], .int .i64 2]) ?_ rfl ⟨ret_fr HR.out (by rw [HK.out]; rfl), by go_grown⟩
      simp [results, Try.results39, go_sem]
end Go.Proofs.Ytfelhmcejkbpfaa
