/-
  Slices of integers: the laws' copy (toIntS) and comparison (eqIntS). No conditions but the bound on the length.
-/
import Derived.Test.YtedmfoogllekeaaKit
import Derived.WalkLawsBesides
import Derived.Handy
import Derived.Outline
import Derived.Lib.Hide
import Derived.Deep.QuietTactic
import Derived.BigQuiet
import Derived.Laws.OwnMore
import Derived.WalkSmall
namespace Go.Proofs.Ytedmfoogllekeaa
open Go.ChangeShapes Go.WideShapes Go.ChangeAt Go.RowKit

theorem infoI : (Try.prog.info? 3).map (fun i => (i.zero, i.size, i.bytes)) = some (some (.int .i64 0), 1, 8) := by kernel_rfl
/-- What is told of integers that came in: they lie in cells. -/
def Code64 (w : World) (a : Option Addr) (l : List Int) : Prop :=
  ∀ j, j < l.length → ∃ b off, a = some ⟨b, off, none⟩ ∧ w.cell? ⟨b, off + j, none⟩ = some (.int .i64 (l.getD j 0)) ∧ -9223372036854775808 ≤ l.getD j 0 ∧ l.getD j 0 ≤ 9223372036854775807
theorem code64_of {w : World} {a : Option Addr} {len cap : Nat} {zs : List Int} (h : IsRow .i64 w a len cap zs) : Code64 w a (zs.take len) ∧ (zs.take len).length = len := by
  rcases h with ⟨_, rfl, _, rfl⟩ | ⟨x, rfl, hl, _, hz, hc, hw⟩
  · exact ⟨fun j hj => absurd hj (by simp), rfl⟩
  · have hlen : (zs.take len).length = len := by simp; omega
    refine ⟨fun j hj => ?_, hlen⟩
    have hjz : j < zs.length := by omega
    have h0 := hc 0 (by omega)
    have h1 := hc j hjz
    obtain ⟨b, off, spot⟩ := x
    have hspot : spot = none := by simpa [Addr.add] using World.cell?_spot h0
    subst hspot
    have hadd : (⟨b, off, none⟩ : Addr).add j = ⟨b, off + j, none⟩ := by unfold Addr.add; split <;> simp_all
    rw [hadd] at h1
    have e : zs.getD j 0 = zs[j] := by simp [List.getD, List.getElem?_eq_getElem hjz]
    have e2 : (zs.take len).getD j 0 = zs.getD j 0 := by
      rw [hlen] at hj
      simp [List.getD, hj]
    have hb := bounds_i64 (hw _ (List.getElem_mem hjz))
    rw [← e] at hb
    rw [e2]
    exact ⟨b, off, rfl, h1, hb.1, hb.2⟩
theorem Code64.below {w w' : World} {a : Option Addr} {l : List Int} {B : Nat} (h : Code64 w a l) (hb : Below B w w') (hB : w.heap.size ≤ B) : Code64 w' a l := by
  intro j hj
  obtain ⟨b, off, h1, h2, h3⟩ := h j hj
  exact ⟨b, off, h1, (hb.cell (Nat.lt_of_lt_of_le (World.block_lt_of_cell? w _ h2) hB)).trans h2, h3⟩

/-- Block g holds the integers l, and nothing else. -/
def HasI (w : World) (g : Nat) (l : List Int) : Prop := w.heap[g]? = some (.cells (l.map (Value.int .i64)).toArray 3 (0, 0))
theorem HasI.cell {w : World} {g : Nat} {l : List Int} (h : HasI w g l) (j : Nat) (hj : j < l.length) : w.cell? ⟨g, j, none⟩ = some (.int .i64 (l.getD j 0)) := by
  rw [cell_of_row _ g j _ _ (0, 0) h]
  simp [List.getElem?_eq_getElem hj, List.getD]
theorem HasI.lt {w : World} {g : Nat} {l : List Int} (h : HasI w g l) : g < w.heap.size := (Array.getElem?_eq_some_iff.1 h).1
theorem HasI.below {w w' : World} {g B : Nat} {l : List Int} (h : HasI w g l) (hb : Below B w w') (hg : g < B) : HasI w' g l := (hb.block g hg).trans h
theorem HasI.of_own {w : World} {B g n : Nat} {l : List Int} (h : w.ownsRow B 3 1 (.slice (some ⟨g, 0, none⟩) n n) n (l.map (Value.int .i64))) : HasI w g l := by
  rcases h.2 with ⟨hv, _⟩ | ⟨g', cap, cur, hv, _, hh, hn, _, hs, ht⟩
  · simp at hv
  · simp only [Value.slice.injEq, Option.some.injEq, Addr.mk.injEq, and_true, true_and] at hv
    obtain ⟨rfl, rfl⟩ := hv
    unfold HasI
    rw [hh, ← ht, List.take_of_length_le (by simp; omega)]

theorem made_ints (q : Nat) : (madeCells (Value.int .i64 0).cells (q * 1)).toList = (List.replicate q (0 : Int)).map (Value.int .i64) := by
  rw [Nat.mul_one]
  show (madeCells #[Value.int .i64 0] q).toList = _
  rw [toList_madeCells_one, List.map_replicate]
theorem set_ints (l : List Int) {k : Nat} (h : k < l.length) : ((l.take k ++ List.replicate (l.length - k) 0).map (Value.int .i64)).set k (.int .i64 (l.getD k 0)) = (l.take (k + 1) ++ List.replicate (l.length - (k + 1)) 0).map (Value.int .i64) := by
  obtain ⟨m, hm⟩ : ∃ m, l.length - k = m + 1 := ⟨l.length - k - 1, by omega⟩
  have e2 : l.length - (k + 1) = m := by omega
  have e3 : l.getD k 0 = l[k] := by simp [List.getD, List.getElem?_eq_getElem h]
  rw [hm, e2, e3, List.replicate_succ, List.take_succ_eq_append_getElem h, List.map_append, List.map_append, List.map_append, List.set_append_right _ _ (by simp; omega)]
  simp [Nat.min_eq_left (Nat.le_of_lt h), -List.map_take]

theorem l_toIntS (w : World) (a : Option Addr) (len cap : Nat) (l : List Int) (hl : l.length = len) (hm : len ≤ 1048576) (hcode : Code64 w a l) : Calls Try.prog 14 #[.slice a len cap] w fun e w' => e = .returned (.slice (some ⟨w.heap.size, 0, none⟩) len len) ∧ HasI w' w.heap.size l ∧ Below w.heap.size w w' := by
  have HC := Lib.hid hcode
  have HL := Lib.hid hl
  clear hcode hl
  obtain ⟨i0, hi, hz0, hz1, hz2⟩ := info_parts infoI
  go_enter Try.func14, Try.ntmps14
  go_wp2_with (with_reducible refine wpList_make_full _ rfl _ _ 27 rfl w.heap.size 3 i0 (.int .i64 0) 1 Try.underlying27 hi hz0 hz1 .i64 .i64 _ _ len rfl rfl rfl rfl (by rw [hz2]; omega) (by unfold maxLen; omega) (Nat.le_refl _) ?_; intro w1 hown1 hgr1; rw [made_ints] at hown1)
  have hb1 : Below w.heap.size w w1 := (Below.refl _ _).grown hgr1 (Nat.le_refl _) (by intro k hk; cases hk)
  clear hgr1
  go_loopw [4] (fun i wr => ∃ k : Nat, i = .int .i64 k ∧ k ≤ len ∧ wr.ownsRow w.heap.size 3 1 (.slice (some ⟨w.heap.size, 0, none⟩) len len) len ((l.take k ++ List.replicate (len - k) 0).map (Value.int .i64)) ∧ Below w.heap.size w wr) (fun i _ => len - (intOf i).toNat)
  case atStart => exact ⟨0, rfl, by omega, by simpa using hown1, hb1⟩
  case round =>
    obtain ⟨k, rfl, hk, hown, hbel⟩ := hrel
    by_cases hlt : k < len
    · obtain ⟨b, off, rfl, hc1, hc2, hc3⟩ := HC.out k (by rw [HL.out]; exact hlt)
      have hcb : wr.cell? ⟨b, off + k, none⟩ = some (.int .i64 (l.getD k 0)) := (hbel.cell (World.block_lt_of_cell? w _ hc1)).trans hc1
      have hc : ∃ u, wr.cell? ⟨w.heap.size, k, none⟩ = some u := by
        rw [hown.cellAt k (by omega)]
        exact ⟨_, List.getElem?_eq_getElem (by have := HL.out; simp; omega)⟩
      obtain ⟨u, hc⟩ := hc
      have hf := hown.frozenAt k
      have hst := hown.stored k (.int .i64 (l.getD k 0))
      have hset := set_ints l (k := k) (by rw [HL.out]; exact hlt)
      rw [HL.out] at hset
      rw [hset] at hst
      have HST := Lib.hid hst
      obtain ⟨z, hz⟩ : ∃ z, l.getD k 0 = z := ⟨_, rfl⟩
      rw [hz] at hcb HST
      clear hst hset hc1 hc2 hc3 hz hown
      go_wp2_with fail
      go_roundw
      case rel => exact ⟨k + 1, by go_num, by omega, HST.out.1, hbel.setCell (Nat.le_refl _) _⟩
      case measure => simp [intOf]; omega
    · obtain rfl : k = len := by omega
      have hown' : HasI wr w.heap.size l := HasI.of_own (by rw [show l = List.take k l ++ List.replicate (k - k) 0 by rw [Nat.sub_self, List.take_of_length_le (by rw [HL.out]; exact Nat.le_refl _)]; simp]; exact hown)
      clear hown
      go_wp2_with fail
      go_ret
      exact ⟨rfl, hown', hbel⟩

theorem l_eqIntS (w : World) (g h len : Nat) (l : List Int) (hl : l.length = len) (hm : len ≤ 1048576) (h1 : HasI w g l) (h2 : HasI w h l) : Calls Try.prog 16 #[.slice (some ⟨g, 0, none⟩) len len, .slice (some ⟨h, 0, none⟩) len len] w fun e w' => e = .returned (.bool true) ∧ ∃ n, w' = w.drewN n := by
  have HL := Lib.hid hl
  have H1 := Lib.hid h1
  have H2 := Lib.hid h2
  clear hl h1 h2
  go_enter Try.func16, Try.ntmps16
  go_wp2_with fail
  go_loopw [5] (fun i wr => ∃ k n : Nat, i = .int .i64 k ∧ k ≤ len ∧ wr = w.drewN n) (fun i _ => len - (intOf i).toNat)
  case atStart => exact ⟨0, 0, rfl, by omega, rfl⟩
  case round =>
    obtain ⟨k, n, rfl, hk, hw⟩ := hrel
    have HW := Lib.hid hw
    by_cases hlt : k < len
    · have c1 : wr.cell? ⟨g, k, none⟩ = some (.int .i64 (l.getD k 0)) := by rw [hw]; exact H1.out.cell k (by rw [HL.out]; exact hlt)
      have c2 : wr.cell? ⟨h, k, none⟩ = some (.int .i64 (l.getD k 0)) := by rw [hw]; exact H2.out.cell k (by rw [HL.out]; exact hlt)
      obtain ⟨z, hz⟩ : ∃ z, l.getD k 0 = z := ⟨_, rfl⟩
      rw [hz] at c1 c2
      have hbz : ((z : Int) != z) = false := by simp
      clear hz hw
      go_wp2_with fail
      go_quiet (fail)
      go_wp2_with fail
      go_roundw
      case rel => exact ⟨k + 1, n + nq, by go_num, by omega, by rw [HW.out]; exact World.drewN_drewN _ _ _⟩
      case measure => simp [intOf]; omega
    · clear hw
      go_wp2_with fail
      go_ret
      exact ⟨rfl, n, HW.out⟩
end Go.Proofs.Ytedmfoogllekeaa
