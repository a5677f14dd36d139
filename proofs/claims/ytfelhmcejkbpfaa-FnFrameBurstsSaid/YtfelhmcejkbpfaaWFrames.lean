/-
  Drawn frames. No conditions.
-/
import Derived.Test.YtfelhmcejkbpfaaWFrPlain
import Derived.Test.YtfelhmcejkbpfaaDrawS
import Derived.Deep.RegionHeld3
import Derived.Deep.QuietTactic
import Derived.BigQuiet
namespace Go.Proofs.Ytfelhmcejkbpfaa
open Go.ChangeShapes Go.WideShapes Go.ChangeAt Go.RowKit

/-- Block g holds a frame's two cells. -/
def Box (w : World) (g : Nat) (x y : Value) : Prop := w.heap[g]? = some (.cells #[x, y] 37 (0, 0))
theorem Box.new (w : World) (x y : Value) : Box (w.alloc (.cells #[x, y] 37)) w.heap.size x y := heap_alloc_new w _
theorem Box.lt {w : World} {g : Nat} {x y : Value} (h : Box w g x y) : g < w.heap.size := (Array.getElem?_eq_some_iff.1 h).1
theorem Box.c0 {w : World} {g : Nat} {x y : Value} (h : Box w g x y) : w.cell? ⟨g, 0, none⟩ = some x := by rw [cell_of_row _ g 0 _ _ (0, 0) h]; rfl
theorem Box.c1 {w : World} {g : Nat} {x y : Value} (h : Box w g x y) : w.cell? ⟨g, 1, none⟩ = some y := by rw [cell_of_row _ g 1 _ _ (0, 0) h]; rfl
theorem Box.f {w : World} {g : Nat} {x y : Value} (h : Box w g x y) (j : Nat) : w.frozen? ⟨g, j, none⟩ = false := frozen_of_row _ _ j _ _ h
theorem Box.below {w w' : World} {g B : Nat} {x y : Value} (h : Box w g x y) (hb : Below B w w') (hg : g < B) : Box w' g x y := (hb.block g hg).trans h
theorem Box.grown {w w' : World} {g c : Nat} {x y : Value} (h : Box w g x y) (hb : w.grownBy w' (some c)) (hg : g ≠ c) : Box w' g x y := (hb.block g h.lt (by simp; exact hg)).trans h
theorem Box.set {w : World} {g : Nat} {x y : Value} (h : Box w g x y) (a b : Value) :
    (w.setCell ⟨g, 0, none⟩ a).cell? ⟨g, 0, none⟩ = some a ∧ ((w.setCell ⟨g, 0, none⟩ a).setCell ⟨g, 1, none⟩ b).cell? ⟨g, 1, none⟩ = some b := by
  obtain ⟨h1, h2⟩ := two_set h.c0 h.c1
  exact ⟨h1 a, h2 a b⟩

def FrmP (w : World) (c : Nat) (a : Option Addr) (len cap : Nat) (e : Ending) (w' : World) : Prop :=
  ∃ (v : Int) (l : List UInt8), e = .returned (.agg #[.int .i64 v, .string ⟨l.toArray⟩]) ∧ 1 ≤ v ∧ v ≤ 9 ∧ l.length ≤ 20 ∧ Cur w' c a len cap ∧ w.grownBy w' (some c)
theorem s_l06Frame (w : World) (c : Nat) (a : Option Addr) (len cap : Nat) (hc : Cur w c a len cap) : Calls Try.prog 62 #[.pointer (some ⟨c, 0, none⟩)] w (FrmP w c a len cap) := by
  have hcl := hc.lt
  go_enter Try.func62, Try.ntmps62
  go_wp2_with fail
  refine (s_l01Below _ _ _ _ _ _ (by omega) (hc.alloc _)).mono ?_
  rintro e w1 ⟨x, rfl, hx, hc1, hg1⟩
  obtain ⟨hx0, hx1⟩ : 0 ≤ x ∧ x ≤ 8 := by have := hx.1; have := hx.2; omega
  have hbx := (Box.new w _ _).grown hg1 (by omega)
  have hgr := grown_trans (World.grownBy_alloc w _ (some c)) hg1
  clear hx hg1
  go_wp2_with fail
  refine (s_l01Below _ _ _ _ _ _ (by omega) hc1).mono ?_
  rintro e w2 ⟨y, rfl, hy, hc2, hg2⟩
  obtain ⟨hy0, hy1⟩ : 0 ≤ y ∧ y ≤ 19 := by have := hy.1; have := hy.2; omega
  have hbx2 := hbx.grown hg2 (by omega)
  have hgr2 := grown_trans hgr hg2
  clear hy hg2 hbx hgr hc1
  obtain ⟨z, rfl⟩ : ∃ n : Nat, y = (n : Int) := ⟨y.toNat, by omega⟩
  go_wp2_with fail
  refine (s_l01Text_in _ _ _ _ _ z (by omega) hc2).mono ?_
  rintro e w3 ⟨l, rfl, hl, hl2, hc3, hg3⟩
  have HL : Hid (l.length = z) := by have := hl2 (by omega); unfold Hid; omega
  have hbx3 := hbx2.grown hg3 (by omega)
  have hgr3 := grown_trans hgr2 hg3
  have hk0 := hbx3.c0
  have hk1 := hbx3.c1
  have hf0 := hbx3.f 0
  have hf1 := hbx3.f 1
  obtain ⟨hq0, hq1⟩ := hbx3.set (.int .i64 (1 + x)) (.string ⟨l.toArray⟩)
  have HB := Lib.hid hbx3
  clear hg3 hbx2 hgr2 hc2 hl2 hbx3
  go_wp2_with fail
  (try simp only [Exit.inBlock, Exit.then])
  have hb : Below w.heap.size w3 ((w3.setCell ⟨w.heap.size, 0, none⟩ (.int .i64 (1 + x))).setCell ⟨w.heap.size, 1, none⟩ (.string ⟨l.toArray⟩)) := ((Below.refl _ _).setCell (p := ⟨w.heap.size, 0, none⟩) (Nat.le_refl _) _).setCell (p := ⟨w.heap.size, 1, none⟩) (Nat.le_refl _) _
  refine bodyPost_ret (v := .agg #[.int .i64 (1 + x), .string ⟨l.toArray⟩]) ?_ rfl ⟨1 + x, l, rfl, by omega, by omega, by have := HL.out; omega, hc3.below hb hcl, grown_then hgr3 hb⟩
  simp [results, Try.results62, go_sem, hq0, hq1]

theorem Box.put0 {w : World} {g : Nat} {x y : Value} (h : Box w g x y) (u : Value) : Box (w.setCell ⟨g, 0, none⟩ u) g u y := heap_setCell_same w g 0 _ _ _ h
theorem Box.put1 {w : World} {g : Nat} {x y : Value} (h : Box w g x y) (u : Value) : Box (w.setCell ⟨g, 1, none⟩ u) g x u := heap_setCell_same w g 1 _ _ _ h
theorem Box.far {w : World} {g : Nat} {x y : Value} (h : Box w g x y) (p : Addr) (hp : p.block ≠ g) (u : Value) : Box (w.setCell p u) g x y := (heap_setCell_other w p g u hp.symm).trans h
def FrAnyP (w : World) (c : Nat) (e : Ending) (w' : World) : Prop :=
  ∃ (v : Int) (l : List UInt8), e = .returned (.agg #[.int .i64 v, .string ⟨l.toArray⟩]) ∧ -1 ≤ v ∧ v ≤ 10 ∧ l.length ≤ 20000 ∧ w.grownBy w' (some c)
def verL : List Int := [0, 10, -1]
theorem verL_in : ∀ z ∈ verL, -1 ≤ z ∧ z ≤ 10 := by decide
theorem s_l06Any (w : World) (c : Nat) (a : Option Addr) (len cap : Nat) (hc : Cur w c a len cap) : Calls Try.prog 59 #[.pointer (some ⟨c, 0, none⟩)] w (FrAnyP w c) := by
  have hcl := hc.lt
  go_enter Try.func59, Try.ntmps59
  go_wp2_with fail
  refine (s_l06Frame _ _ _ _ _ (hc.alloc _)).mono ?_
  rintro e w1 ⟨v, l, rfl, hv0, hv1, hl, hc1, hg1⟩
  have hbx := (Box.new w _ _).grown hg1 (by omega)
  have hgr := grown_trans (World.grownBy_alloc w _ (some c)) hg1
  have hs1 : w.heap.size < w1.heap.size := hbx.lt
  clear hg1
  go_wp2_with fail
  refine (s_l01Below _ _ _ _ _ _ (by omega) (hc1.alloc _)).mono ?_
  rintro e w2 ⟨x, rfl, hx, hc2, hg2⟩
  have hF := (Box.new w1 _ _).grown hg2 (by omega)
  have hA := (hbx.below ((Below.refl _ w1).alloc (Nat.le_refl _) (.cells #[.int .i64 v, .string ⟨l.toArray⟩] 37)) hs1).grown hg2 (by omega)
  have hgr2 := grown_trans hgr (grown_trans (World.grownBy_alloc w1 _ (some c)) hg2)
  have hs2 : w1.heap.size < w2.heap.size := hF.lt
  obtain ⟨hx0, hx1⟩ : 0 ≤ x ∧ x ≤ 11 := by have := hx.1; have := hx.2; omega
  clear hx hg2 hbx hgr hc1
  by_cases h0 : x = 0
  · have h0' : (x == 0) = true := beq_iff_eq.2 h0
    clear h0
    go_wp2_with fail
    refine (s_l01PickInt (w2.alloc (.cells (verL.map (Value.int .i64)).toArray 3)) c a len cap w2.heap.size 3 verL rfl (by decide) (by decide) (by omega) (fun j hj => new_ints w2 _ verL j hj) (hc2.alloc _)).mono ?_
    rintro e w3 ⟨y, rfl, hy, hc3, hg3⟩
    have hy' := among_in verL_in hy
    obtain ⟨hy0, hy1⟩ := hy'
    have hF3 := (hF.below ((Below.refl _ w2).alloc (Nat.le_refl _) (.cells (verL.map (Value.int .i64)).toArray 3)) hs2).grown hg3 (by omega)
    have hA3 := (hA.below ((Below.refl _ w2).alloc (Nat.le_refl _) (.cells (verL.map (Value.int .i64)).toArray 3)) (by omega)).grown hg3 (by omega)
    have hgr3 := grown_trans hgr2 (grown_trans (World.grownBy_alloc w2 _ (some c)) hg3)
    clear hy hg3 hc2 hc3 hF hA hgr2
    have hF4 := hF3.put0 (.int .i64 y)
    have hA4 := hA3.far ⟨w1.heap.size, 0, none⟩ (by show w1.heap.size ≠ w.heap.size; omega) (.int .i64 y)
    have k0 := hF3.c0
    have k1 := hF3.f 0
    have k2 := hF4.c0
    have k3 := hF4.c1
    have k4 := hA4.c0
    have k5 := hA4.c1
    have k6 := hA4.f 0
    have k7 := hA4.f 1
    obtain ⟨hq0, hq1⟩ := hA4.set (.int .i64 y) (.string ⟨l.toArray⟩)
    clear hF3 hF4 hA3 hA4
    go_wp2_with fail
    (try simp only [Exit.inBlock, Exit.then])
    refine bodyPost_ret (v := .agg #[.int .i64 y, .string ⟨l.toArray⟩]) ?_ rfl ⟨y, l, rfl, by omega, by omega, by omega, grown_then hgr3 ?_⟩
    · simp [results, Try.results59, go_sem, hq0, hq1]
    · exact (((Below.refl _ _).setCell (p := ⟨w1.heap.size, 0, none⟩) (by show w.heap.size ≤ w1.heap.size; omega) _).setCell (p := ⟨w.heap.size, 0, none⟩) (Nat.le_refl _) _).setCell (p := ⟨w.heap.size, 1, none⟩) (Nat.le_refl _) _
  · have h0' : (x == 0) = false := beq_eq_false_iff_ne.2 h0
    by_cases h1 : x = 1
    · have h1' : (x == 1) = true := beq_iff_eq.2 h1
      clear h0 h1
      go_wp2_with fail
      refine (s_l01Below _ _ _ _ _ _ (by omega) hc2).mono ?_
      rintro e w3 ⟨y, rfl, hy, hc3, hg3⟩
      obtain ⟨hy0, hy1⟩ : 0 ≤ y ∧ y ≤ 2 := by have := hy.1; have := hy.2; omega
      have hF3 := hF.grown hg3 (by omega)
      have hA3 := hA.grown hg3 (by omega)
      have hgr3 := grown_trans hgr2 hg3
      have hs3 : w1.heap.size < w3.heap.size := hF3.lt
      clear hy hg3 hc2 hc3 hF hA hgr2
      obtain ⟨q, hq⟩ : ∃ q : Nat, 19979 + y = (q : Int) := ⟨(19979 + y).toNat, by omega⟩
      have hq1 : q ≤ 19981 := by omega
      go_wp2_with fail
      refine (s_l01Long q (by omega) _).mono ?_
      rintro e w4 ⟨rfl, hb4⟩
      obtain ⟨L, hL⟩ : ∃ L, (List.replicate q (7 : UInt8)) = L := ⟨_, rfl⟩
      have HL : Hid (L.length = q) := by unfold Hid; rw [← hL, List.length_replicate]
      rw [hL]
      clear hL
      have hF4 := hF3.below hb4 hs3
      have hA4 := hA3.below hb4 (by omega)
      have hF5 := hF4.put1 (.string ⟨L.toArray⟩)
      have hA5 := hA4.far ⟨w1.heap.size, 1, none⟩ (by show w1.heap.size ≠ w.heap.size; omega) (.string ⟨L.toArray⟩)
      have k0 := hF4.c1
      have k1 := hF4.f 1
      have k2 := hF5.c0
      have k3 := hF5.c1
      have k4 := hA5.c0
      have k5 := hA5.c1
      have k6 := hA5.f 0
      have k7 := hA5.f 1
      obtain ⟨hq0, hq1⟩ := hA5.set (.int .i64 v) (.string ⟨L.toArray⟩)
      have hgr4 := grown_trans hgr3 (grown_below (r := some c) hb4)
      clear hF3 hF4 hF5 hA3 hA4 hA5 hgr3
      go_wp2_with fail
      (try simp only [Exit.inBlock, Exit.then])
      refine bodyPost_ret (v := .agg #[.int .i64 v, .string ⟨L.toArray⟩]) ?_ rfl ⟨v, L, rfl, by omega, by omega, by have := HL.out; omega, grown_then hgr4 ?_⟩
      · simp [results, Try.results59, go_sem, hq0, hq1]
      · exact (((Below.refl _ _).setCell (p := ⟨w1.heap.size, 1, none⟩) (by show w.heap.size ≤ w1.heap.size; omega) _).setCell (p := ⟨w.heap.size, 0, none⟩) (Nat.le_refl _) _).setCell (p := ⟨w.heap.size, 1, none⟩) (Nat.le_refl _) _
    · have h1' : (x == 1) = false := beq_eq_false_iff_ne.2 h1
      clear h0 h1
      have k2 := hF.c0
      have k3 := hF.c1
      have k4 := hA.c0
      have k5 := hA.c1
      have k6 := hA.f 0
      have k7 := hA.f 1
      obtain ⟨hq0, hq1⟩ := hA.set (.int .i64 v) (.string ⟨l.toArray⟩)
      clear hF hA hc2
      go_wp2_with fail
      (try simp only [Exit.inBlock, Exit.then])
      refine bodyPost_ret (v := .agg #[.int .i64 v, .string ⟨l.toArray⟩]) ?_ rfl ⟨v, l, rfl, by omega, by omega, by omega, grown_then hgr2 ?_⟩
      · simp [results, Try.results59, go_sem, hq0, hq1]
      · exact ((Below.refl _ _).setCell (p := ⟨w.heap.size, 0, none⟩) (Nat.le_refl _) _).setCell (p := ⟨w.heap.size, 1, none⟩) (Nat.le_refl _) _

def DrFrP (w : World) (e : Ending) (w' : World) : Prop := ∃ (v : Int) (l : List UInt8), e = .returned (.agg #[.int .i64 v, .string ⟨l.toArray⟩]) ∧ -1 ≤ v ∧ v ≤ 10 ∧ l.length ≤ 20000 ∧ Below w.heap.size w w'
theorem s_DrawFrameText (w : World) (a : Option Addr) (len cap : Nat) (hm : len ≤ 1048576) (hcode : Code8 w a len) : Calls Try.prog 42 #[.slice a len cap] w (DrFrP w) := by
  have HC := Lib.hid hcode
  clear hcode
  go_enter Try.func42, Try.ntmps42
  go_wp2_with fail
  refine (s_l01New _ a len cap hm (code_below HC.out ((Below.refl _ w).alloc (Nat.le_refl _) _) (Nat.le_refl _))).mono ?_
  rintro e w1 ⟨c, rfl, hcb, hc1, hb1⟩
  have hbx := (Box.new w _ _).below hb1 (by simp)
  have hb0 := box_below hb1
  have hcb' : w.heap.size < c := by simp at hcb; omega
  have hs1 : w.heap.size < w1.heap.size := hbx.lt
  clear hb1 hcb
  go_wp2_with fail
  refine (s_l06Any _ _ _ _ _ hc1).mono ?_
  rintro e w2 ⟨v, l, rfl, hv0, hv1, hl, hg2⟩
  have hA := hbx.grown hg2 (by omega)
  have hb2 := hb0.trans (below_grown hg2 (by omega) (by omega))
  have k4 := hA.c0
  have k5 := hA.c1
  have k6 := hA.f 0
  have k7 := hA.f 1
  obtain ⟨hq0, hq1⟩ := hA.set (.int .i64 v) (.string ⟨l.toArray⟩)
  clear hA hbx hb0 hg2 hc1
  go_wp2_with fail
  (try simp only [Exit.inBlock, Exit.then])
  refine bodyPost_ret (v := .agg #[.int .i64 v, .string ⟨l.toArray⟩]) ?_ rfl ⟨v, l, rfl, by omega, by omega, by omega, ?_⟩
  · simp [results, Try.results42, go_sem, hq0, hq1]
  · exact (hb2.setCell (p := ⟨w.heap.size, 0, none⟩) (Nat.le_refl _) _).setCell (p := ⟨w.heap.size, 1, none⟩) (Nat.le_refl _) _
end Go.Proofs.Ytfelhmcejkbpfaa
