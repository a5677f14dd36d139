/-
  The law FnFigures. No conditions beyond the listed variables' places.
-/
import Derived.Test.YtpbflceekikbiaaDoorWUnits
import Derived.Test.YtpbflceekikbiaaDoorWUnhex
import Derived.Test.YtpbflceekikbiaaDoorWAmt
import Derived.Test.YtpbflceekikbiaaDoorWB
import Derived.Deep.DrawnRows
namespace Go.Proofs.YtpbflceekikbiaaDoor
open Go.ChangeShapes Go.WideShapes Go.ChangeAt Go.RowKit Go.Proofs.YtpbflceekikbiaaDoor.Dec

attribute [local go_sem ↓] Go.wp_at_zero Go.wp_at_succ
theorem valU_fig : ∀ d : Fin 16, valU (figU d.val).toNat = (d.val : Int) := by decide
theorem un_hex : ∀ l : List UInt8, unL (hexL l) = some l
  | [] => rfl
  | c :: l => by
    have e : hexL (c :: l) = figU (c.toNat / 16) :: figU (c.toNat % 16) :: hexL l := by unfold hexL; rw [List.flatMap_cons]; rfl
    have hc : c.toNat < 256 := UInt8.toNat_lt c
    have h1 := valU_fig ⟨c.toNat / 16, by omega⟩
    have h2 := valU_fig ⟨c.toNat % 16, by omega⟩
    simp only [] at h1 h2
    have h3 : (16 * ((c.toNat / 16 : Nat) : Int) + ((c.toNat % 16 : Nat) : Int)).toNat = c.toNat := by omega
    rw [e, un_yes (by rw [h1, h2]; omega), un_hex l, h1, h2, h3, UInt8.ofNat_toNat]
    rfl
theorem conv_two2 (w : World) (b : Nat) (x y : UInt8) (h : w.cell? ⟨b, 0, none⟩ = some (.int .u8 (x.toNat : Int))) (h2 : w.cell? ⟨b, 1, none⟩ = some (.int .u8 (y.toNat : Int))) : (convert 27 9 (.slice (some ⟨b, 0, none⟩) 2 2)).run Tryd.prog w = .ok (.string ⟨#[x, y]⟩) w := by
  refine run_convert_bytes_back (P := Tryd.prog) w 27 9 5 ⟨b, 0, none⟩ 2 [x, y] Tryd.underlying27 Tryd.underlying5 Tryd.underlying9 (fun j hj => ?_)
  have hj2 : j = 0 ∨ j = 1 := by have : j < 2 := hj; omega
  rcases hj2 with rfl | rfl
  · exact h
  · exact h2
theorem wrap_byte (x : Int) (_h0 : 0 ≤ x) : ∃ b : UInt8, IntKind.u8.wrap x = (b.toNat : Int) ∧ x % 256 = (b.toNat : Int) := by
  have e : ((UInt8.ofNat (x % 256).toNat).toNat : Int) = x % 256 := by
    rw [u8c (by omega)]
    omega
  refine ⟨UInt8.ofNat (x % 256).toNat, ?_, e.symm⟩
  rw [e]
  simp [IntKind.wrap, IntKind.signed, IntKind.bits]
theorem bdN {B : Nat} {a w : World} (h : Below B a w) (n : Nat) : Below B a (w.drewN n) := ⟨h.os, h.tape, h.output, h.size, h.block⟩
theorem brought_in (n lo hi : Int) (h : lo ≤ hi) : lo ≤ broughtV n lo hi ∧ broughtV n lo hi ≤ hi ∧ broughtV (broughtV n lo hi) lo hi = broughtV n lo hi := by
  have key : ∀ m, broughtV m lo hi = if m < lo then lo else if hi < m then hi else m := fun m => if_neg (by omega)
  rw [key n]
  by_cases h1 : n < lo
  · rw [if_pos h1]
    exact ⟨by omega, by omega, by rw [key, if_neg (by omega), if_neg (by omega)]⟩
  · rw [if_neg h1]
    by_cases h2 : hi < n
    · rw [if_pos h2]
      exact ⟨by omega, by omega, by rw [key, if_neg (by omega), if_neg (by omega)]⟩
    · rw [if_neg h2]
      exact ⟨by omega, by omega, by rw [key, if_neg h1, if_neg h2]⟩

set_option maxHeartbeats 16000000 in
theorem walk_FnFigures (a : Option Addr) (len cap : Nat) (zs : List Int) (w : World) (hz : IsRow .u8 w a len cap zs) (hSt : Tab w ∧ Errs w) : Calls Tryd.prog 9 #[.slice a len cap] w fun e w' => e = .returned (.bool true) ∧ Below w.heap.size w w' := by
  obtain ⟨hT, hE⟩ := hSt
  have HT := Lib.hid hT
  have HE := Lib.hid hE
  clear hT hE
  have HC := Lib.hid (code_of hz)
  have hm : len ≤ 9223372036854775807 := by
    rcases hz with ⟨_, rfl, _⟩ | ⟨x, _, hl, hm, _⟩
    · omega
    · unfold maxLen at hm; omega
  clear hz
  by_cases hb : (1048576 : Int) < (len : Int)
  · have hd : decide ((1048576 : Int) < (len : Int)) = true := by simpa using hb
    go_enter Tryd.func9, Tryd.ntmps9
    go_wp2_with (go_at_call 25; refine (l_big _ _ _ _ hm).mono ?_; rintro e w' ⟨rfl, rfl⟩)
    go_ret
    exact ⟨rfl, Below.refl _ _⟩
  have hd0 : decide ((1048576 : Int) < (len : Int)) = false := by simpa using hb
  have hm2 : len ≤ 1048576 := by omega
  go_enter Tryd.func9, Tryd.ntmps9
  go_wp2_with (go_at_call 25; refine (l_big _ _ _ _ hm).mono ?_; rintro e w' ⟨rfl, rfl⟩)
  refine (s_DrawPlaces w a len cap hm2 HC.out).mono ?_
  rintro e w1 ⟨g, cp, ps, rfl, hg, hcells, hps, hb1⟩
  have c0 := hcells 0 (by omega)
  obtain ⟨x0, hx0⟩ : ∃ x, ps 0 = x := ⟨_, rfl⟩
  have p0 := (hps 0).1
  have q0 := (hps 0).2
  rw [hx0] at c0 p0 q0
  have c1 := hcells 1 (by omega)
  obtain ⟨x1, hx1⟩ : ∃ x, ps 1 = x := ⟨_, rfl⟩
  have p1 := (hps 1).1
  have q1 := (hps 1).2
  rw [hx1] at c1 p1 q1
  have c2 := hcells 2 (by omega)
  obtain ⟨x2, hx2⟩ : ∃ x, ps 2 = x := ⟨_, rfl⟩
  have p2 := (hps 2).1
  have q2 := (hps 2).2
  rw [hx2] at c2 p2 q2
  have c3 := hcells 3 (by omega)
  obtain ⟨x3, hx3⟩ : ∃ x, ps 3 = x := ⟨_, rfl⟩
  have p3 := (hps 3).1
  have q3 := (hps 3).2
  rw [hx3] at c3 p3 q3
  have c4 := hcells 4 (by omega)
  obtain ⟨x4, hx4⟩ : ∃ x, ps 4 = x := ⟨_, rfl⟩
  have p4 := (hps 4).1
  have q4 := (hps 4).2
  rw [hx4] at c4 p4 q4
  have c5 := hcells 5 (by omega)
  obtain ⟨x5, hx5⟩ : ∃ x, ps 5 = x := ⟨_, rfl⟩
  have p5 := (hps 5).1
  have q5 := (hps 5).2
  rw [hx5] at c5 p5 q5
  have c6 := hcells 6 (by omega)
  obtain ⟨x6, hx6⟩ : ∃ x, ps 6 = x := ⟨_, rfl⟩
  have p6 := (hps 6).1
  have q6 := (hps 6).2
  rw [hx6] at c6 p6 q6
  have c7 := hcells 7 (by omega)
  obtain ⟨x7, hx7⟩ : ∃ x, ps 7 = x := ⟨_, rfl⟩
  have p7 := (hps 7).1
  have q7 := (hps 7).2
  rw [hx7] at c7 p7 q7
  clear hcells hps hx0 hx1 hx2 hx3 hx4 hx5 hx6 hx7
  have hgl : g < w1.heap.size := World.block_lt_of_cell? w1 _ c0
  have HT1 : Hid (∀ b, Below w1.heap.size w1 b → Tab b) := fun b k => HT.out.below (hb1.trans (k.mono hb1.size))
  have HE1 : Hid (∀ b, Below w1.heap.size w1 b → Errs b) := fun b k => HE.out.below (hb1.trans (k.mono hb1.size))
  have HB1 := Lib.hid hb1
  -- what the calls give
  obtain ⟨S, hS⟩ : ∃ S : ByteArray, (⟨(Lib.itoa x5).toArray⟩ : ByteArray) = S := ⟨_, rfl⟩
  have hSs : S.size ≤ 21 := by rw [← hS, bs_size]; exact Lib.itoa_length_le x5 (by omega) (by omega)
  have HD : Hid (∀ w, Below w1.heap.size w1 w → Calls Tryd.prog 16 #[.int .i64 x5] w fun e w' => e = .returned (.string S) ∧ Below w.heap.size w w') := fun w k => by
    have := i_Decimal x5 (by omega) (by omega) w (HT1.out w k)
    rw [hS] at this
    exact this
  obtain ⟨b6, hw6, hm6⟩ := wrap_byte x6 p6
  obtain ⟨b7, hw7, hm7⟩ := wrap_byte x7 p7
  obtain ⟨Q, hQ⟩ : ∃ Q : ByteArray, (⟨#[b6, b7]⟩ : ByteArray) = Q := ⟨_, rfl⟩
  have hQs : Q.size = 2 := by rw [← hQ]; rfl
  have hcv : ∀ (w : World) (b : Nat), w.cell? ⟨b, 0, none⟩ = some (.int .u8 (b6.toNat : Int)) → w.cell? ⟨b, 1, none⟩ = some (.int .u8 (b7.toNat : Int)) → (convert 27 9 (.slice (some ⟨b, 0, none⟩) 2 2)).run Tryd.prog w = .ok (.string Q) w := fun w b h1 h2 => by rw [← hQ]; exact conv_two2 w b b6 b7 h1 h2
  obtain ⟨z6, hz6⟩ : ∃ z : Int, (b6.toNat : Int) = z := ⟨_, rfl⟩
  obtain ⟨z7, hz7⟩ : ∃ z : Int, (b7.toNat : Int) = z := ⟨_, rfl⟩
  rw [hz6] at hw6 hm6 hcv
  rw [hz7] at hw7 hm7 hcv
  clear hQ hz6 hz7 hS
  have hsz : ¬ 9223372036854775807 < S.size + Q.size := by omega
  obtain ⟨T, hTT⟩ : ∃ T : ByteArray, S ++ Q = T := ⟨_, rfl⟩
  have hTs : T.size ≤ 23 := by rw [← hTT, ByteArray.size_append]; omega
  obtain ⟨H, hH⟩ : ∃ H : ByteArray, (⟨(hexL T.data.toList).toArray⟩ : ByteArray) = H := ⟨_, rfl⟩
  have hHl : H.data.toList = hexL T.data.toList := by rw [← hH]
  have hTl : T.data.toList.length = T.size := Array.length_toList
  have hHs : H.size = 2 * T.size := by rw [← hH, bs_size, hexL_len, hTl]
  have HHex : Hid (∀ w, Calls Tryd.prog 31 #[.string T] w fun e w' => e = .returned (.tuple #[.string H, .bool true]) ∧ Below w.heap.size w w') := fun w => by
    have := i_Hex T (by omega) w
    unfold hexR at this
    rw [if_pos (by omega), hH] at this
    exact this
  have HUn : Hid (∀ w, Calls Tryd.prog 32 #[.string H] w fun e w' => e = .returned (.tuple #[.string T, .bool true]) ∧ Below w.heap.size w w') := fun w => by
    have := i_Unhex H (by omega) w
    rw [un_ok (X := T.data.toList) ⟨by omega, by omega⟩ (by rw [hHl, un_hex])] at this
    exact this
  have hlen : (H.size : Int) = 2 * (T.size : Int) := by omega
  clear hH hHl hTl hHs
  obtain ⟨n, hn⟩ : ∃ n : Int, x0 * 10000 + x1 = n := ⟨_, rfl⟩
  have hn0 : 0 ≤ n := by omega
  have hn1 : n ≤ 1000000000 := by omega
  obtain ⟨S2, hS2⟩ : ∃ S : ByteArray, (⟨(Lib.itoa n).toArray⟩ : ByteArray) = S := ⟨_, rfl⟩
  have HD2 : Hid (∀ w, Below w1.heap.size w1 w → Calls Tryd.prog 16 #[.int .i64 n] w fun e w' => e = .returned (.string S2) ∧ Below w.heap.size w w') := fun w k => by
    have := i_Decimal n (by omega) (by omega) w (HT1.out w k)
    rw [hS2] at this
    exact this
  have hS2s : S2.size ≤ 21 := by rw [← hS2, bs_size]; exact Lib.itoa_length_le n (by omega) (by omega)
  have hrd : readD S2.data.toList = (n, true) := by
    obtain ⟨N, rfl⟩ : ∃ N : Nat, n = (N : Int) := ⟨n.toNat, by omega⟩
    rw [← hS2, bs_list, Lib.itoa_nonneg]
    unfold readD
    rw [read_dec (by omega), if_pos ⟨rfl, by simp only []; omega⟩]
  have HRD : Hid (∀ w, Below w1.heap.size w1 w → Calls Tryd.prog 24 #[.string S2] w fun e w' => e = .returned (.tuple #[.int .i64 n, .bool true]) ∧ Below w.heap.size w w') := fun w k => by
    have := i_ReadDecimal S2 (by omega) w (HT1.out w k) (HE1.out w k)
    rw [hrd] at this
    exact this
  clear hS2 hS2s hrd
  obtain ⟨B, hB⟩ : ∃ B, broughtV (x2 - 5000) (-x3) x4 = B := ⟨_, rfl⟩
  obtain ⟨hB1, hB2, hB3⟩ := brought_in (x2 - 5000) (-x3) x4 (by omega)
  rw [hB] at hB1 hB2 hB3
  have HBr : Hid (∀ w, Calls Tryd.prog 33 #[.int .i64 (x2 - 5000), .int .i64 (-x3), .int .i64 x4] w fun e w' => e = .returned (.int .i64 B) ∧ w = w') := fun w => by
    have := i_Brought (x2 - 5000) (-x3) x4 w
    rw [hB] at this
    exact this
  have HBr2 : Hid (∀ w, Calls Tryd.prog 33 #[.int .i64 B, .int .i64 (-x3), .int .i64 x4] w fun e w' => e = .returned (.int .i64 B) ∧ w = w') := fun w => by
    have := i_Brought B (-x3) x4 w
    rw [hB3] at this
    exact this
  clear hB hB3
  have r1 : -9223372036854775808 ≤ x2 - 5000 := by omega
  have r2 : x2 - 5000 ≤ 9223372036854775807 := by omega
  have r3 : -9223372036854775808 ≤ -x3 := by omega
  have r4 : -x3 ≤ 9223372036854775807 := by omega
  have ca5 : ∀ o, (w1.alloc o).cell? ⟨g, 5, none⟩ = some (.int .i64 x5) := fun o => (((Below.refl w1.heap.size w1).alloc (Nat.le_refl _) o).cell hgl).trans c5
  have ca6 : ∀ o, (w1.alloc o).cell? ⟨g, 6, none⟩ = some (.int .i64 x6) := fun o => (((Below.refl w1.heap.size w1).alloc (Nat.le_refl _) o).cell hgl).trans c6
  have ca7 : ∀ o, (w1.alloc o).cell? ⟨g, 7, none⟩ = some (.int .i64 x7) := fun o => (((Below.refl w1.heap.size w1).alloc (Nat.le_refl _) o).cell hgl).trans c7
  clear hm hm2 hd0 hb HC hg
  go_upto_region 4 with fail
  go_cut [4] (fun s4 wx => s4 = .string T ∧ Below w1.heap.size w1 wx)
  case first =>
    clear r1 r2 r3 r4 HHex HUn HD2 HRD HBr HBr2 hlen hn hn0 hn1 hB1 hB2 c0 c1 c2 c3 c4 p0 p1 p2 p3 p4 q0 q1 q2 q3 q4 hTs hb1 p5 q5 p6 q6 p7 q7 hm6 hm7 hSs hQs HT1 HE1 HT HE HB1
    rename_i hA2 J1 K2 hA1 hA0
    clear hA2
    have HA1 : PLift _ := ⟨hA1⟩
    clear hA1
    go_region_with (first | (go_at_call 16; refine (HD.out _ (by first | exact (Below.refl _ _).drew | exact ((Below.refl _ _).alloc (Nat.le_refl _) _).drew | exact ((Below.refl _ _).drew).alloc (Nat.le_refl _) _ | exact (Below.refl _ _).alloc (Nat.le_refl _) _ | exact Below.refl _ _)).mono ?_; rintro e w2 ⟨rfl, hb2⟩; have hg2 : Below w1.heap.size w1 w2 := (by first | exact hb2 | exact below_dr (Below.refl _ _) (Nat.le_refl _) hb2 | exact below_al (Below.refl _ _) (Nat.le_refl _) hb2 | exact below_ald (Below.refl _ _) (Nat.le_refl _) hb2); have d6 : w2.cell? ⟨g, 6, none⟩ = some (.int .i64 x6) := (hg2.cell hgl).trans c6; have d7 : w2.cell? ⟨g, 7, none⟩ = some (.int .i64 x7) := (hg2.cell hgl).trans c7; (try (refine (have hn6 : w2.cell? ⟨w1.heap.size, 0, none⟩ = some (.int .u8 z6) := ?_; ?_); (first | exact cell_new hb2 rfl | exact cell_new_d hb2 rfl); refine (have hn7 : w2.cell? ⟨w1.heap.size, 1, none⟩ = some (.int .u8 z7) := ?_; ?_); (first | exact cell_new hb2 rfl | exact cell_new_d hb2 rfl)))))
    all_goals
      go_wp2_with fail
      have hA1 := HA1.down
      go_meet
      exact ⟨by first | rfl | exact str_am hTT, by first | exact hg2 | exact hg2.alloc hg2.size _ | exact hg2.drew | exact (hg2.alloc hg2.size _).drew⟩
  case rest =>
    obtain ⟨rfl, hg2⟩ := hcut
    rename_i W2
    clear hcv hw6 hw7 hm6 hm7 c5 c6 c7 hsz ca5 ca6 ca7 hSs hQs p5 p6 p7 q5 q6 q7
    go_wp2_with fail
    refine (HHex.out _).mono ?_
    rintro e w3 ⟨rfl, hb3⟩
    have hg3 := hg2.trans (hb3.mono hg2.size)
    clear hb3
    go_wp2_with fail
    refine (HUn.out _).mono ?_
    rintro e w4 ⟨rfl, hb4⟩
    have hg4 := hg3.trans (hb4.mono hg3.size)
    clear hb4 hg3
    have d0 : w4.cell? ⟨g, 0, none⟩ = some (.int .i64 x0) := (hg4.cell hgl).trans c0
    have d1 : w4.cell? ⟨g, 1, none⟩ = some (.int .i64 x1) := (hg4.cell hgl).trans c1
    go_wp2_with fail
    go_quiet (fail)
    go_wp2_with fail
    all_goals
      refine (HD2.out _ (by first | exact bdN hg4 _ | exact hg4.drew | exact hg4)).mono ?_
      rintro e w5 ⟨rfl, hb5⟩
      have hg5 : Below w1.heap.size w1 w5 := (by first | exact hg4.trans (hb5.mono hg4.size) | exact below_dr hg4 hg4.size hb5 | exact (bdN hg4 _).trans (hb5.mono (bdN hg4 _).size))
      clear hb5
      go_wp2_with fail
      refine (HRD.out _ hg5).mono ?_
      rintro e w6 ⟨rfl, hb6⟩
      have hg6 := hg5.trans (hb6.mono hg5.size)
      clear hb6
      have f2 : w6.cell? ⟨g, 2, none⟩ = some (.int .i64 x2) := (hg6.cell hgl).trans c2
      have f3 : w6.cell? ⟨g, 3, none⟩ = some (.int .i64 x3) := (hg6.cell hgl).trans c3
      have f4 : w6.cell? ⟨g, 4, none⟩ = some (.int .i64 x4) := (hg6.cell hgl).trans c4
      go_wp2_with fail
      go_quiet ((go_at_call 33; refine (HBr.out _).mono ?_; rintro e w' ⟨rfl, rfl⟩; exact ⟨rfl, _, rfl⟩))
      go_wp2_with fail
      go_quiet ((go_at_call 33; refine (HBr2.out _).mono ?_; rintro e w' ⟨rfl, rfl⟩; exact ⟨rfl, _, rfl⟩))
      go_wp2_with fail
      go_ret
      refine ⟨rfl, ?_⟩
      have hf := HB1.out.trans (hg6.mono HB1.out.size)
      first | exact hf | exact hf.drew | exact bdN hf _ | exact bdN (bdN hf _) _
end Go.Proofs.YtpbflceekikbiaaDoor
