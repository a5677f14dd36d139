/-
  The law FnFrameBursts. No conditions.
-/
import Derived.Test.YtfelhmcejkbpfaaWFrames
import Derived.Test.YtfelhmcejkbpfaaWSums
import Derived.IntWalk
namespace Go.Proofs.Ytfelhmcejkbpfaa
open Go.ChangeShapes Go.WideShapes Go.ChangeAt Go.RowKit

theorem below_d {B : Nat} {w a b : World} (h : Below B w a) (hB : B ≤ a.heap.size) (k : Below a.drew.heap.size a.drew b) : Below B w b := h.drew.trans (k.mono hB)
theorem below_a {B : Nat} {w a b : World} {o : Obj} (h : Below B w a) (hB : B ≤ a.heap.size) (k : Below (a.alloc o).heap.size (a.alloc o) b) : Below B w b := (h.alloc hB o).trans (k.mono (by simp; omega))
theorem below_ad {B : Nat} {w a b : World} {o : Obj} (h : Below B w a) (hB : B ≤ a.heap.size) (k : Below (a.alloc o).drew.heap.size (a.alloc o).drew b) : Below B w b := (h.alloc hB o).drew.trans (k.mono (by show B ≤ (a.alloc o).heap.size; simp; omega))
theorem below_da {B : Nat} {w a b : World} {o : Obj} (h : Below B w a) (hB : B ≤ a.heap.size) (k : Below (a.drew.alloc o).heap.size (a.drew.alloc o) b) : Below B w b := (h.drew.alloc hB o).trans (k.mono (by simp; exact Nat.le_succ_of_le hB))
theorem two_far {w : World} {h g j : Nat} {a b u : Value} (hc : w.cell? ⟨g, j, none⟩ = some u) (hne : g ≠ h) : ((w.setCell ⟨h, 0, none⟩ a).setCell ⟨h, 1, none⟩ b).cell? ⟨g, j, none⟩ = some u :=
  (World.cell?_setCell_other _ ⟨h, 1, none⟩ ⟨g, j, none⟩ b (by intro e; cases e; exact hne rfl)).trans ((World.cell?_setCell_other _ ⟨h, 0, none⟩ ⟨g, j, none⟩ a (by intro e; cases e; exact hne rfl)).trans hc)
def BoxAt (w : World) (g : Nat) (x y : Value) : Prop := w.cell? ⟨g, 0, none⟩ = some x ∧ w.cell? ⟨g, 1, none⟩ = some y ∧ w.frozen? ⟨g, 0, none⟩ = false ∧ w.frozen? ⟨g, 1, none⟩ = false ∧ g < w.heap.size
theorem keep_box {w b : World} {x y : Value} {t : TypeId} (k : Below (w.alloc (.cells #[x, y] t)).heap.size (w.alloc (.cells #[x, y] t)) b) : BoxAt b w.heap.size x y := by
  obtain ⟨h0, h1⟩ := box_cells k
  obtain ⟨h2, h3⟩ := box_free k
  exact ⟨h0, h1, h2, h3, World.block_lt_of_cell? b _ h0⟩
theorem keep_box_d {w b : World} {x y : Value} {t : TypeId} (k : Below (w.alloc (.cells #[x, y] t)).drew.heap.size (w.alloc (.cells #[x, y] t)).drew b) : BoxAt b w.heap.size x y := by
  have k' : Below (w.alloc (.cells #[x, y] t)).heap.size (w.alloc (.cells #[x, y] t)) b := below_d (Below.refl _ _) (Nat.le_refl _) k
  exact keep_box k'
theorem carry_box {a b : World} {g : Nat} {x y : Value} (h : BoxAt a g x y) (k : Below a.heap.size a b) : BoxAt b g x y :=
  ⟨(k.cell (p := ⟨g, 0, none⟩) h.2.2.2.2).trans h.1, (k.cell (p := ⟨g, 1, none⟩) h.2.2.2.2).trans h.2.1, (k.frozen (p := ⟨g, 0, none⟩) h.2.2.2.2).trans h.2.2.1, (k.frozen (p := ⟨g, 1, none⟩) h.2.2.2.2).trans h.2.2.2.1, Nat.lt_of_lt_of_le h.2.2.2.2 k.size⟩
theorem carry_box_d {a b : World} {g : Nat} {x y : Value} (h : BoxAt a g x y) (k : Below a.drew.heap.size a.drew b) : BoxAt b g x y := carry_box h (below_d (Below.refl _ _) (Nat.le_refl _) k)
set_option maxHeartbeats 8000000 in
set_option maxRecDepth 100000 in
theorem walk_FnFrameBursts (a : Option Addr) (len cap : Nat) (zs : List Int) (w : World) (hz : IsRow .u8 w a len cap zs) : Calls Try.prog 15 #[.slice a len cap] w fun e w' => e = .returned (.bool true) ∧ Below w.heap.size w w' := by
  have HC := Lib.hid (code_of hz)
  have hm : len ≤ 9223372036854775807 := by
    rcases hz with ⟨_, rfl, _⟩ | ⟨x, _, hl, hm, _⟩
    · omega
    · unfold maxLen at hm; omega
  clear hz
  by_cases hb : (1048576 : Int) < (len : Int)
  · have hd : decide ((1048576 : Int) < (len : Int)) = true := by simpa using hb
    go_enter Try.func15, Try.ntmps15
    go_wp2_with (go_at_call 27; refine (l_big _ _ _ _ hm).mono ?_; rintro e w' ⟨rfl, rfl⟩)
    go_ret
    exact ⟨rfl, Below.refl _ _⟩
  · go_enter Try.func15, Try.ntmps15
    go_wp2_with (go_at_call 27; refine (l_big _ _ _ _ hm).mono ?_; rintro e w' ⟨rfl, rfl⟩)
    refine (s_DrawPlaces w a len cap (by omega) HC.out).mono ?_
    rintro e w1 ⟨g, cp, ps, rfl, hg, hcells, hps, hb1⟩
    have hs1 := hb1.size
    have c0 := hcells 0 (by omega)
    have c1 := hcells 1 (by omega)
    have c2 := hcells 2 (by omega)
    have p0 := (hps 0).1
    have p0' := (hps 0).2
    have p1 := (hps 1).1
    have p1' := (hps 1).2
    have p2 := (hps 2).1
    have p2' := (hps 2).2
    obtain ⟨x, hx⟩ : ∃ x : Nat, ps 0 = x := ⟨(ps 0).toNat, by omega⟩
    obtain ⟨y, hy⟩ : ∃ y : Nat, ps 1 = y := ⟨(ps 1).toNat, by omega⟩
    obtain ⟨z, hz⟩ : ∃ z : Nat, ps 2 = z := ⟨(ps 2).toNat, by omega⟩
    rw [hx] at c0 p0 p0'
    rw [hy] at c1 p1 p1'
    rw [hz] at c2 p2 p2'
    clear hcells hps hx hy hz
    go_wp2_with fail
    have hgl : g < w1.heap.size := World.block_lt_of_cell? w1 _ c0
    refine (s_DrawFrameText w1 a len cap (by omega) (code_below HC.out hb1 (Nat.le_refl _))).mono ?_
    rintro e w2 ⟨v, l, rfl, hv0, hv1, hl, hb2⟩
    have hs2 := hb2.size
    obtain ⟨p, hp⟩ : ∃ p : ByteArray, (⟨l.toArray⟩ : ByteArray) = p := ⟨_, rfl⟩
    have hpn : p.size ≤ 20000 := by rw [← hp, mk_size]; omega
    rw [hp]
    clear hp hl
    obtain ⟨ok, hok⟩ : ∃ ok, frOk v p = ok := ⟨_, rfl⟩
    have HOK : Hid (∀ w, Calls Try.prog 43 #[.agg #[.int .i64 v, .string p]] w fun e w' => e = .returned (.bool ok) ∧ Below w.heap.size w w') := fun w => by rw [← hok]; exact s_FrameOk v p w
    have hBW0 := hb1.trans (hb2.mono hs1)
    have d0 : w2.cell? ⟨g, 0, none⟩ = some (.int .i64 x) := (hb2.cell hgl).trans c0
    have d1 : w2.cell? ⟨g, 1, none⟩ = some (.int .i64 y) := (hb2.cell hgl).trans c1
    have d2 : w2.cell? ⟨g, 2, none⟩ = some (.int .i64 z) := (hb2.cell hgl).trans c2
    clear c0 c1 c2 hb1 hb2
    have hF0 := Box.new w2 (.int .i64 v) (.string p)
    have hlt0 : w2.heap.size < (w2.alloc (.cells #[.int .i64 v, .string p] 37)).heap.size := hF0.lt
    have hbA : Below w2.heap.size w2 (w2.alloc (.cells #[.int .i64 v, .string p] 37)) := (Below.refl _ _).alloc (Nat.le_refl _) _
    cases ok
    · have HT : Hid (∀ w, Calls Try.prog 32 #[.agg #[.int .i64 v, .string p]] w fun e w' => e = .returned (.string ⟨#[]⟩) ∧ Below w.heap.size w w') := fun w => by
        have := i_FrameText v p (by omega) w
        rw [text_not hok] at this
        exact this
      have HQ : Hid (∀ w, Calls Try.prog 22 #[.string ⟨#[49, 50, 51, 52, 53, 54, 55, 56, 57]⟩] w fun e w' => e = .returned (.int .i64 3421780262) ∧ w = w') := fun w => by
        have := i_SumOf ⟨#[49, 50, 51, 52, 53, 54, 55, 56, 57]⟩ (by decide) w
        rw [show Crc.sumOf (⟨#[49, 50, 51, 52, 53, 54, 55, 56, 57]⟩ : ByteArray).data.toList = 3421780262 from sum_check] at this
        exact this
      clear hok d0 d1 d2
      go_wp2_with fail
      obtain ⟨W, hW⟩ : ∃ W, w2.alloc (.cells #[.int .i64 v, .string p] 37) = W := ⟨_, rfl⟩
      rw [hW] at hF0 hlt0 hbA ⊢
      clear hW
      have k0 := hF0.c0
      have k1 := hF0.c1
      refine (HT.out _).mono ?_
      rintro e w3 ⟨rfl, hb3⟩
      have hF3 := hF0.below hb3 hlt0
      have hs3 := hb3.size
      clear k0 k1
      have k0 := hF3.c0
      have k1 := hF3.c1
      go_wp2_with fail
      refine (HOK.out _).mono ?_
      rintro e w4 ⟨rfl, hb4⟩
      have hs4 := hb4.size
      go_wp2_with fail
      refine (HQ.out _).mono ?_
      rintro e w' ⟨rfl, rfl⟩
      go_wp2_with fail
      go_ret
      exact ⟨rfl, hBW0.trans ((hbA.mono (by omega)).trans ((hb3.mono (by omega)).trans (hb4.mono (by omega))))⟩
    · obtain ⟨f1, f2, f3⟩ := fr_parts hok
      obtain ⟨T, hT⟩ : ∃ T, frText v p = T := ⟨_, rfl⟩
      obtain ⟨n, hn⟩ : ∃ n, 14 + p.size = n := ⟨_, rfl⟩
      have hTs : T.size = n := by rw [← hT, ← hn]; exact text_size hok
      have hn0 : 14 ≤ n := by omega
      have hn1 : n ≤ 20014 := by omega
      obtain ⟨B, hB⟩ : ∃ B : Nat, 1 + 2 * ((x : Int) * 10000 + (y : Int)) = (B : Int) := ⟨1 + 2 * (x * 10000 + y), by omega⟩
      obtain ⟨hB1, hB2⟩ : B ≤ 4294967295 ∧ B % 2 = 1 := by omega
      obtain ⟨K, hK⟩ : ∃ K : Nat, z % (8 * n) = K := ⟨_, rfl⟩
      have hK1 : K < 8 * n := by rw [← hK]; exact Nat.mod_lt _ (by omega)
      have hbu := rd_burst hok B K hB1 hB2 (by omega)
      rw [hT] at hbu
      obtain ⟨S, hS⟩ : ∃ S : ByteArray, (⟨(flipV T (K : Int) (B : Int)).toArray⟩ : ByteArray) = S := ⟨_, rfl⟩
      rw [hS] at hbu
      have hSs : S.size ≤ 30000 := by
        rw [← hS, mk_size]
        unfold flipV
        split
        · rw [Crc.flip_length, list_size]; omega
        · rw [list_size]; omega
      obtain ⟨k, hk⟩ : ∃ k, rdCode S = k := ⟨_, rfl⟩
      have HR : Hid (∀ w, Calls Try.prog 40 #[.string S] w fun e w' => e = .returned (.tuple #[.agg #[.int .i64 0, .string ⟨#[]⟩], .int .i64 ((k : Nat) : Int)]) ∧ Below w.heap.size w w') := fun w => by
        have := i_ReadFrame S (by omega) w
        rw [rd_zero hbu, hk] at this
        exact this
      have HF : Hid (∀ w, Calls Try.prog 17 #[.string T, .int .i64 (K : Int), .int .i64 (B : Int)] w fun e w' => e = .returned (.string S) ∧ Below w.heap.size w w') := fun w => by
        have := s_Flipped T K B (by omega) w
        rw [hS] at this
        exact this
      have HT : Hid (∀ w, Calls Try.prog 32 #[.agg #[.int .i64 v, .string p]] w fun e w' => e = .returned (.string T) ∧ Below w.heap.size w w') := fun w => by rw [← hT]; exact i_FrameText v p (by omega) w
      have hkb : (((k : Nat) : Int) != 0) = true := bne_iff_ne.2 (by rw [hk] at hbu; omega)
      have hTne : (T.toList == []) = false := by
        rw [ByteArray.toList_eq, beq_eq_false_iff_ne]
        intro h0
        have := list_size T
        rw [h0] at this
        simp at this
        omega
      have hTne2 : T.toList.isEmpty = false := by
        rw [ByteArray.toList_eq, Bool.eq_false_iff]
        intro h0
        have := list_size T
        rw [List.isEmpty_iff.1 h0] at this
        simp at this
        omega
      have HK : Hid (Int.tmod (z : Int) (8 * (n : Int)) = (K : Int)) := by
        unfold Hid
        rw [← hK, show (8 * (n : Int)) = ((8 * n : Nat) : Int) by omega, Int.tmod_eq_emod_of_nonneg (by omega)]
        rfl
      clear hok hbu hk hT hS hn hK
      go_wp2_with fail
      obtain ⟨W, hW⟩ : ∃ W, w2.alloc (.cells #[.int .i64 v, .string p] 37) = W := ⟨_, rfl⟩
      rw [hW] at hF0 hlt0 hbA ⊢
      clear hW
      have hgl2 : g < w2.heap.size := World.block_lt_of_cell? w2 _ d0
      have k0 := hF0.c0
      have k1 := hF0.c1
      have e0 : W.cell? ⟨g, 0, none⟩ = some (.int .i64 x) := (hbA.cell hgl2).trans d0
      have e1 : W.cell? ⟨g, 1, none⟩ = some (.int .i64 y) := (hbA.cell hgl2).trans d1
      have e2 : W.cell? ⟨g, 2, none⟩ = some (.int .i64 z) := (hbA.cell hgl2).trans d2
      have hgl3 : g < W.heap.size := by omega
      clear d0 d1 d2
      refine (HT.out _).mono ?_
      rintro e w3 ⟨rfl, hb3⟩
      have hF3 := hF0.below hb3 hlt0
      have hs3 := hb3.size
      have d0 := (hb3.cell (p := ⟨g, 0, none⟩) hgl3).trans e0
      have d1 := (hb3.cell (p := ⟨g, 1, none⟩) hgl3).trans e1
      have d2 := (hb3.cell (p := ⟨g, 2, none⟩) hgl3).trans e2
      have hgl4 : g < w3.heap.size := by omega
      clear k0 k1 e0 e1 e2
      have k0 := hF3.c0
      have k1 := hF3.c1
      go_wp2_with fail
      refine (HOK.out _).mono ?_
      rintro e w4 ⟨rfl, hb4⟩
      have hs4 := hb4.size
      have e0 := (hb4.cell (p := ⟨g, 0, none⟩) hgl4).trans d0
      have e1 := (hb4.cell (p := ⟨g, 1, none⟩) hgl4).trans d1
      have e2 := (hb4.cell (p := ⟨g, 2, none⟩) hgl4).trans d2
      have hgl5 : g < w4.heap.size := by omega
      clear k0 k1 d0 d1 d2
      have hBB := hBW0.trans ((hbA.mono (by omega)).trans ((hb3.mono (by omega)).trans (hb4.mono (by omega))))
      clear hBW0 hbA hb3 hb4 hF0 hF3
      have m1 := HK.out
      have m2 : (z : Int) % (8 * (n : Int)) = (K : Int) := by rw [← m1, Int.tmod_eq_emod_of_nonneg (by omega)]
      go_wp2_with fail
      have q1 : IntKind.i64.wrap ((x : Int) * 10000) = (x : Int) * 10000 := IntWalk.i64_in _ ⟨by omega, by omega⟩
      have q2 : IntKind.i64.wrap ((x : Int) * 10000 + (y : Int)) = (x : Int) * 10000 + (y : Int) := IntWalk.i64_in _ ⟨by omega, by omega⟩
      have q3 : IntKind.i64.wrap (2 * ((x : Int) * 10000 + (y : Int))) = 2 * ((x : Int) * 10000 + (y : Int)) := IntWalk.i64_in _ ⟨by omega, by omega⟩
      have q4 : IntKind.i64.wrap (1 + 2 * ((x : Int) * 10000 + (y : Int))) = (B : Int) := by rw [hB]; exact IntWalk.i64_in _ ⟨by omega, by omega⟩
      have q5 : IntKind.i64.wrap (B : Int) = (B : Int) := IntWalk.i64_in _ ⟨by omega, by omega⟩
      have hs45 := hBB.size
      clear e2 m1 m2 HK hB hB1 hB2 hK1 hSs hTs hn0 hn1 hTne hTne2 f1 f2 f3 hpn hv0 hv1 p0 p0' p1 p1' p2 p2'
      go_region_held3 (fun w' => w'.cell? ⟨g, 0, none⟩ = some (.int .i64 x) ∧ w'.cell? ⟨g, 1, none⟩ = some (.int .i64 y)) (first | exact ⟨two_far u0 (by omega), two_far u1 (by omega)⟩ | go_keep) (first | (go_at_call 17; refine (HF.out _).mono ?_; rintro e w5 ⟨rfl, hb5⟩; have hg5 : Below w4.heap.size w4 w5 := (by first | exact hb5 | exact below_d (Below.refl _ _) (Nat.le_refl _) hb5 | exact below_a (Below.refl _ _) (Nat.le_refl _) hb5 | exact below_ad (Below.refl _ _) (Nat.le_refl _) hb5 | exact below_da (Below.refl _ _) (Nat.le_refl _) hb5); have t0 : w5.cell? ⟨g, 0, none⟩ = some (.int .i64 x) := (hg5.cell (p := ⟨g, 0, none⟩) hgl5).trans e0; have t1 : w5.cell? ⟨g, 1, none⟩ = some (.int .i64 y) := (hg5.cell (p := ⟨g, 1, none⟩) hgl5).trans e1; have hgl6 : w4.heap.size ≤ w5.heap.size := hg5.size; (try (refine (have hz5 : BoxAt w5 w4.heap.size (.int .i64 0) (.string ⟨#[]⟩) := ?_; ?_); (first | exact keep_box hb5 | exact keep_box_d hb5); obtain ⟨z0, z1, z2, z3, z4⟩ := hz5))) | (go_at_call 40; refine (HR.out _).mono ?_; rintro e w6 ⟨rfl, hb6⟩; have hg6 : Below w4.heap.size w4 w6 := (by first | exact hg5.trans (hb6.mono hgl6) | exact below_d hg5 hgl6 hb6 | exact below_a hg5 hgl6 hb6 | exact below_ad hg5 hgl6 hb6 | exact below_da hg5 hgl6 hb6); have u0 : w6.cell? ⟨g, 0, none⟩ = some (.int .i64 x) := (hg6.cell (p := ⟨g, 0, none⟩) hgl5).trans e0; have u1 : w6.cell? ⟨g, 1, none⟩ = some (.int .i64 y) := (hg6.cell (p := ⟨g, 1, none⟩) hgl5).trans e1; have hgl7 : w4.heap.size ≤ w6.heap.size := hg6.size; (try (refine (have hz6 : BoxAt w6 w5.heap.size (.int .i64 0) (.string ⟨#[]⟩) := ?_; ?_); (first | exact keep_box hb6 | exact keep_box_d hb6); obtain ⟨y0, y1, y2, y3, y4⟩ := hz6)); (try (refine (have hz6 : BoxAt w6 w4.heap.size (.int .i64 0) (.string ⟨#[]⟩) := ?_; ?_); (first | exact carry_box ⟨z0, z1, z2, z3, z4⟩ hb6 | exact carry_box_d ⟨z0, z1, z2, z3, z4⟩ hb6); obtain ⟨y0, y1, y2, y3, y4⟩ := hz6))))
      · have hfin := hBB.trans (hg6.mono hs45)
        have hsf := hfin.size
        go_wp2_with fail
        go_ret
        exact ⟨rfl, by first | exact hfin.alloc hsf _ | exact (hfin.alloc hsf _).drew⟩
      · have hfin := hBB.trans (hg6.mono hs45)
        obtain ⟨hq0, hq1⟩ := two_set y0 y1
        go_wp2_with fail
        go_ret
        exact ⟨rfl, by first | exact (hfin.setCell (p := ⟨w5.heap.size, 0, none⟩) (Nat.le_trans hs45 hgl6) _).setCell (p := ⟨w5.heap.size, 1, none⟩) (Nat.le_trans hs45 hgl6) _ | exact ((hfin.setCell (p := ⟨w5.heap.size, 0, none⟩) (Nat.le_trans hs45 hgl6) _).setCell (p := ⟨w5.heap.size, 1, none⟩) (Nat.le_trans hs45 hgl6) _).drew⟩
      · have hfin := hBB.trans (hg6.mono hs45)
        obtain ⟨hq0, hq1⟩ := two_set y0 y1
        go_wp2_with fail
        go_ret
        exact ⟨rfl, by first | exact (hfin.setCell (p := ⟨w4.heap.size, 0, none⟩) hs45 _).setCell (p := ⟨w4.heap.size, 1, none⟩) hs45 _ | exact ((hfin.setCell (p := ⟨w4.heap.size, 0, none⟩) hs45 _).setCell (p := ⟨w4.heap.size, 1, none⟩) hs45 _).drew⟩
end Go.Proofs.Ytfelhmcejkbpfaa
