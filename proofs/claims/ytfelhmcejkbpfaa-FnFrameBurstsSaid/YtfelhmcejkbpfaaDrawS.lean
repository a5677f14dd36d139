/-
  l01Long; DrawSealed. No conditions.
-/
import Derived.Test.YtfelhmcejkbpfaaWBursts
namespace Go.Proofs.Ytfelhmcejkbpfaa
open Go.ChangeShapes Go.WideShapes Go.ChangeAt Go.RowKit

theorem set_long {k q : Nat} (h : k < q) : (bc (List.replicate k 7 ++ List.replicate (q - k) 0)).set k (.int .u8 7) = bc (List.replicate (k + 1) 7 ++ List.replicate (q - (k + 1)) 0) := by
  obtain ⟨m, hm⟩ : ∃ m, q - k = m + 1 := ⟨q - k - 1, by omega⟩
  have e2 : q - (k + 1) = m := by omega
  rw [hm, e2, List.replicate_succ, List.replicate_succ']
  unfold bc
  rw [List.map_append, List.set_append_right _ _ (by simp)]
  simp
theorem s_l01Long (q : Nat) (hq : q ≤ 1000000) (w : World) : Calls Try.prog 53 #[.int .i64 (q : Int), .int .u8 7] w fun e w' => e = .returned (.string ⟨(List.replicate q (7 : UInt8)).toArray⟩) ∧ Below w.heap.size w w' := by
  obtain ⟨i0, hi, hz0, hz1, hz2⟩ := info_parts infoByte
  go_enter Try.func53, Try.ntmps53
  go_wp2_with (with_reducible refine wpList_make_full _ rfl _ _ 30 rfl w.heap.size 5 i0 (.int .u8 0) 1 Try.underlying30 hi hz0 hz1 .i64 .i64 _ _ q rfl rfl rfl rfl (by rw [hz2]; omega) (by unfold maxLen; omega) (Nat.le_refl _) ?_; intro w1 hown1 hgr1; rw [made_bytes] at hown1)
  have hb1 : Below w.heap.size w w1 := (Below.refl _ _).grown hgr1 (Nat.le_refl _) (by intro k hk; cases hk)
  clear hgr1
  go_loopw [6] (fun i wr => ∃ k : Nat, i = .int .i64 k ∧ k ≤ q ∧ wr.ownsRow w.heap.size 5 1 (.slice (some ⟨w.heap.size, 0, none⟩) q q) q (bc (List.replicate k 7 ++ List.replicate (q - k) 0)) ∧ Below w.heap.size w wr) (fun i _ => q - (intOf i).toNat)
  case atStart => exact ⟨0, rfl, by omega, by simpa using hown1, hb1⟩
  case round =>
    obtain ⟨k, rfl, hk, hown, hbel⟩ := hrel
    by_cases hlt : k < q
    · have hc : ∃ u, wr.cell? ⟨w.heap.size, k, none⟩ = some u := by
        rw [hown.cellAt k (by omega)]
        exact ⟨_, List.getElem?_eq_getElem (by simp [bc]; omega)⟩
      obtain ⟨u, hc⟩ := hc
      have hf := hown.frozenAt k
      have hst := hown.stored k (.int .u8 7)
      rw [set_long hlt] at hst
      have HST := Lib.hid hst
      clear hst
      go_wp2_with fail
      go_roundw
      case rel => exact ⟨k + 1, by go_num, by omega, HST.out.1, hbel.setCell (Nat.le_refl _) _⟩
      case measure => simp [intOf]; omega
    · obtain rfl : k = q := by omega
      have hown' : OwnB wr w.heap.size (.slice (some ⟨w.heap.size, 0, none⟩) k k) (List.replicate k 7) := by
        unfold OwnB
        rw [List.length_replicate]
        simpa using hown
      have hcv := hown'.conv
      clear hown hown'
      go_wp2_with fail
      go_ret
      exact ⟨rfl, hbel⟩

theorem s_DrawSealed (w : World) (a : Option Addr) (len cap : Nat) (hm : len ≤ 1048576) (hcode : Code8 w a len) : Calls Try.prog 28 #[.slice a len cap] w (DrawLP 20001 w) := by
  have HC := Lib.hid hcode
  clear hcode
  go_enter Try.func28, Try.ntmps28
  go_wp2_with fail
  refine (s_l01New w a len cap hm HC.out).mono ?_
  rintro e w1 ⟨c, rfl, hcb, hc1, hb1⟩
  go_wp2_with fail
  refine (s_l01Once _ _ _ _ _ _ (by omega) hc1).mono ?_
  rintro e w2 ⟨b, rfl, hc2, hg2⟩
  cases b
  · go_wp2_with fail
    refine (s_l01Below _ _ _ _ _ _ (by omega) hc2).mono ?_
    rintro e w3 ⟨x, rfl, hx, hc3, hg3⟩
    have hx0 := hx.1
    have hx1 : x ≤ 40 := by have := hx.2; omega
    clear hx
    obtain ⟨y, rfl⟩ : ∃ n : Nat, x = (n : Int) := ⟨x.toNat, by omega⟩
    go_wp2_with fail
    refine (s_l01Text_in _ _ _ _ _ y (by omega) hc3).mono ?_
    rintro e w4 ⟨l, rfl, hl, _, hc4, hg4⟩
    have hg := below_grown (grown_trans hg2 (grown_trans hg3 hg4)) hcb hb1.size
    clear hg2 hg3 hg4 hc2 hc3 hc4
    go_wp2_with fail
    go_ret
    exact ⟨l, rfl, by omega, hb1.trans hg⟩
  · go_wp2_with fail
    refine (s_l01Below _ _ _ _ _ _ (by omega) hc2).mono ?_
    rintro e w3 ⟨x, rfl, hx, hc3, hg3⟩
    have hx0 := hx.1
    have hx1 : x ≤ 1 := by have := hx.2; omega
    clear hx
    obtain ⟨y, rfl⟩ : ∃ n : Nat, x = (n : Int) := ⟨x.toNat, by omega⟩
    have hg := below_grown (grown_trans hg2 hg3) hcb hb1.size
    obtain ⟨q, hq⟩ : ∃ q : Nat, 20000 + (y : Int) = (q : Int) := ⟨20000 + y, by omega⟩
    have hq1 : q ≤ 20001 := by omega
    clear hg2 hg3 hc2 hc3
    go_wp2_with fail
    refine (s_l01Long q (by omega) _).mono ?_
    rintro e w4 ⟨rfl, hb4⟩
    go_wp2_with fail
    go_ret
    exact ⟨_, rfl, by rw [List.length_replicate]; exact hq1, (hb1.trans hg).trans (hb4.mono (hb1.trans hg).size)⟩
end Go.Proofs.Ytfelhmcejkbpfaa
