/-
  The cursor over the bytes of a draw (spec.l01New, l01Byte, l01Below, l01Once, l01PickInt): each call leaves a cursor, answers within bounds, and writes to the cursor's block alone. No conditions.
-/
import Derived.Test.YtpbflceekikbiaaDoorBytes
import Derived.Deep.QuietTactic
import Derived.BigQuiet
import Derived.WalkSmall
namespace Go.Proofs.YtpbflceekikbiaaDoor
open Go.RowKit

/-- Block c is a cursor over the slice of bytes (a, len, cap). -/
structure CurIn (w : World) (c : Nat) (a : Option Addr) (len cap i : Nat) (h : Int) : Prop where
  row : w.heap[c]? = some (.cells #[.slice a len cap, .int .i64 (i : Int), .int .i64 h] 64 (0, 0))
  le : i ≤ len
  max : len ≤ 1048576
  code : ∀ j, j < len → ∃ b off x, a = some ⟨b, off, none⟩ ∧ b < c ∧ w.cell? ⟨b, off + j, none⟩ = some (.int .u8 x) ∧ 0 ≤ x ∧ x ≤ 255
def Cur (w : World) (c : Nat) (a : Option Addr) (len cap : Nat) : Prop := ∃ i h, CurIn w c a len cap i h

theorem CurIn.cell0 {w : World} {c : Nat} {a : Option Addr} {len cap i : Nat} {h : Int} (C : CurIn w c a len cap i h) : w.cell? ⟨c, 0, none⟩ = some (.slice a len cap) := by
  rw [cell_of_row w c 0 _ _ (0, 0) C.row]; rfl
theorem CurIn.cell1 {w : World} {c : Nat} {a : Option Addr} {len cap i : Nat} {h : Int} (C : CurIn w c a len cap i h) : w.cell? ⟨c, 1, none⟩ = some (.int .i64 (i : Int)) := by
  rw [cell_of_row w c 1 _ _ (0, 0) C.row]; rfl
theorem CurIn.cell2 {w : World} {c : Nat} {a : Option Addr} {len cap i : Nat} {h : Int} (C : CurIn w c a len cap i h) : w.cell? ⟨c, 2, none⟩ = some (.int .i64 h) := by
  rw [cell_of_row w c 2 _ _ (0, 0) C.row]; rfl
theorem CurIn.free {w : World} {c : Nat} {a : Option Addr} {len cap i : Nat} {h : Int} (C : CurIn w c a len cap i h) (j : Nat) : w.frozen? ⟨c, j, none⟩ = false := frozen_of_row w c j _ _ C.row

theorem CurIn.of_heap {w w' : World} {c : Nat} {a : Option Addr} {len cap i : Nat} {h : Int} (C : CurIn w c a len cap i h) (hh : w'.heap = w.heap) : CurIn w' c a len cap i h := by
  refine ⟨by rw [hh]; exact C.row, C.le, C.max, fun j hj => ?_⟩
  obtain ⟨b, off, x, h1, h2, h3, h4⟩ := C.code j hj
  exact ⟨b, off, x, h1, h2, by rw [← h3]; exact World.cell?_of_block (by rw [hh]), h4⟩
theorem CurIn.drewN {w : World} {c : Nat} {a : Option Addr} {len cap i : Nat} {h : Int} (C : CurIn w c a len cap i h) (n : Nat) : CurIn (w.drewN n) c a len cap i h := C.of_heap rfl
theorem CurIn.drew {w : World} {c : Nat} {a : Option Addr} {len cap i : Nat} {h : Int} (C : CurIn w c a len cap i h) : CurIn w.drew c a len cap i h := C.of_heap rfl
theorem CurIn.grown {w w' : World} {c : Nat} {a : Option Addr} {len cap i i' : Nat} {h h' : Int} (C : CurIn w c a len cap i h) (hg : w.grownBy w' (some c)) (hr : w'.heap[c]? = some (.cells #[.slice a len cap, .int .i64 (i' : Int), .int .i64 h'] 64 (0, 0))) (hi : i' ≤ len) : CurIn w' c a len cap i' h' := by
  refine ⟨hr, hi, C.max, fun j hj => ?_⟩
  obtain ⟨b, off, x, h1, h2, h3, h4⟩ := C.code j hj
  exact ⟨b, off, x, h1, h2, hg.cell h3 (by simp; omega), h4⟩
theorem grown_set (w : World) (c j : Nat) (u : Value) : w.grownBy (w.setCell ⟨c, j, none⟩ u) (some c) :=
  ⟨rfl, rfl, rfl, by simp, fun k _ hk => heap_setCell_other w ⟨c, j, none⟩ k u (fun e => hk (by simp [e]))⟩
theorem grown_trans {a b d : World} {r : Option Nat} (h : a.grownBy b r) (k : b.grownBy d r) : a.grownBy d r :=
  ⟨k.os.trans h.os, k.tape.trans h.tape, k.output.trans h.output, Nat.le_trans h.size k.size, fun i hi hr => (k.block i (Nat.lt_of_lt_of_le hi h.size) hr).trans (h.block i hi hr)⟩
theorem grown_drewN {a b : World} {r : Option Nat} (h : a.grownBy b r) (n : Nat) : a.grownBy (b.drewN n) r := ⟨h.os, h.tape, h.output, h.size, h.block⟩
theorem CurIn.set2 {w : World} {c : Nat} {a : Option Addr} {len cap i : Nat} {h : Int} (C : CurIn w c a len cap i h) (H : Int) : CurIn (w.setCell ⟨c, 2, none⟩ (.int .i64 H)) c a len cap i H :=
  C.grown (grown_set _ _ _ _) (heap_setCell_same w c 2 _ _ _ C.row) C.le
theorem CurIn.set1 {w : World} {c : Nat} {a : Option Addr} {len cap i : Nat} {h : Int} (C : CurIn w c a len cap i h) (j : Nat) (v : Int) (hv : v = (j : Int)) (hj : j ≤ len) : CurIn (w.setCell ⟨c, 1, none⟩ (.int .i64 v)) c a len cap j h := by
  subst hv
  exact C.grown (grown_set _ _ _ _) (heap_setCell_same w c 1 _ _ _ C.row) hj

theorem and_255 (n : Int) : bits .and .i64 n 255 = n % 256 := by
  have h255 : (BitVec.ofInt 64 255).toNat = 2 ^ 8 - 1 := by decide
  have key : (BitVec.ofInt 64 n &&& BitVec.ofInt 64 255).toNat = (n % ((2 ^ 64 : Nat) : Int)).toNat % 2 ^ 8 := by
    rw [BitVec.toNat_and, BitVec.toNat_ofInt, h255, Nat.and_two_pow_sub_one_eq_mod]
  show IntKind.i64.wrap ((BitVec.ofInt 64 n &&& BitVec.ofInt 64 255).toNat : Nat) = n % 256
  rw [key, IntKind.wrap_i64]
  omega

def ByteP (w : World) (c : Nat) (a : Option Addr) (len cap : Nat) (e : Ending) (w' : World) : Prop :=
  ∃ x : Int, e = .returned (.int .i64 x) ∧ 0 ≤ x ∧ x ≤ 255 ∧ Cur w' c a len cap ∧ w.grownBy w' (some c)

theorem s_l01Byte (w : World) (c : Nat) (a : Option Addr) (len cap : Nat) (hc : Cur w c a len cap) : Calls Tryd.prog 63 #[.pointer (some ⟨c, 0, none⟩)] w (ByteP w c a len cap) := by
  obtain ⟨i, h, C⟩ := hc
  have c0 := C.cell0
  have c1 := C.cell1
  have c2 := C.cell2
  have f1 := C.free 1
  have f2 := C.free 2
  have hi := C.le
  have hm := C.max
  obtain ⟨H, hH⟩ : ∃ H, wrap64 (wrap64 (h * 6364136223846793005) + 1442695040888963407) = H := ⟨_, rfl⟩
  obtain ⟨x1, hx1⟩ : ∃ x1, bits .and .i64 (bits .xor .i64 (H / 8589934592) (H / 35184372088832)) 255 = x1 := ⟨_, rfl⟩
  have b1 : 0 ≤ x1 ∧ x1 ≤ 255 := by rw [← hx1, and_255]; omega
  obtain ⟨b1, b2⟩ := b1
  by_cases hlt : i < len
  · obtain ⟨b, off, x, rfl, hb, hx, hy0, hy1⟩ := C.code i hlt
    obtain ⟨x2, hx2⟩ : ∃ x2, bits .and .i64 (x1 + x) 255 = x2 := ⟨_, rfl⟩
    have b3 : 0 ≤ x2 ∧ x2 ≤ 255 := by rw [← hx2, and_255]; omega
    obtain ⟨b3, b4⟩ := b3
    have hlt' : (i : Int) < (len : Int) := by omega
    go_enter Tryd.func63, Tryd.ntmps63
    go_wp2_with fail
    go_quiet (fail)
    go_wp2
    go_quiet (fail)
    go_wp2
    go_quiet (fail)
    go_wp2
    go_ret
    exact ⟨x2, rfl, b3, b4, ⟨i + 1, H, ((C.set2 H).drewN _).set1 (i + 1) _ rfl (by omega)⟩, grown_trans (grown_drewN (grown_set _ _ _ _) _) (grown_set _ _ _ _)⟩
  · have hlt' : ¬ (i : Int) < (len : Int) := by omega
    go_enter Tryd.func63, Tryd.ntmps63
    go_wp2_with fail
    go_quiet (fail)
    go_wp2
    go_quiet (fail)
    go_wp2
    go_ret
    exact ⟨x1, rfl, b1, b2, ⟨i, H, ((C.set2 H).drewN _).drewN _⟩, grown_drewN (grown_drewN (grown_set _ _ _ _) _) _⟩

theorem Cur.below {w w' : World} {c : Nat} {a : Option Addr} {len cap : Nat} (C : Cur w c a len cap) {B : Nat} (hb : Below B w w') (hc : c < B) : Cur w' c a len cap := by
  obtain ⟨i, h, C⟩ := C
  refine ⟨i, h, by rw [hb.block c hc]; exact C.row, C.le, C.max, fun j hj => ?_⟩
  obtain ⟨b, off, x, h1, h2, h3, h4⟩ := C.code j hj
  exact ⟨b, off, x, h1, h2, by rw [← h3]; exact hb.cell (by show b < B; omega), h4⟩
theorem Cur.lt {w : World} {c : Nat} {a : Option Addr} {len cap : Nat} (C : Cur w c a len cap) : c < w.heap.size := by
  obtain ⟨i, h, C⟩ := C
  exact (Array.getElem?_eq_some_iff.1 C.row).1
theorem Cur.alloc {w : World} {c : Nat} {a : Option Addr} {len cap : Nat} (C : Cur w c a len cap) (o : Obj) : Cur (w.alloc o) c a len cap :=
  C.below ((Below.refl _ w).alloc (Nat.le_refl _) o) C.lt
theorem grown_below {w w' : World} {r : Option Nat} (h : Below w.heap.size w w') : w.grownBy w' r := ⟨h.os, h.tape, h.output, h.size, fun k hk _ => h.block k hk⟩
theorem below_grown {w w' : World} {c B : Nat} (h : w.grownBy w' (some c)) (hc : B ≤ c) (hB : B ≤ w.heap.size) : Below B w w' := ⟨h.os, h.tape, h.output, h.size, fun k hk => h.block k (by omega) (by simp; omega)⟩

/-- What a call of the cursor's gives: a number for which R holds. -/
def NumP (R : Int → Prop) (w : World) (c : Nat) (a : Option Addr) (len cap : Nat) (e : Ending) (w' : World) : Prop :=
  ∃ x : Int, e = .returned (.int .i64 x) ∧ R x ∧ Cur w' c a len cap ∧ w.grownBy w' (some c)
def Bel (n : Int) (x : Int) : Prop := 0 ≤ x ∧ (x < n ∨ x = 0)

theorem s_l01Below (w : World) (c : Nat) (a : Option Addr) (len cap : Nat) (n : Int) (hn : n ≤ 9223372036854775807) (hc : Cur w c a len cap) : Calls Tryd.prog 51 #[.pointer (some ⟨c, 0, none⟩), .int .i64 n] w (NumP (Bel n) w c a len cap) := by
  by_cases h0 : n ≤ 0
  · go_enter Tryd.func51, Tryd.ntmps51
    go_wp2_with fail
    go_ret
    exact ⟨0, rfl, ⟨by omega, .inr rfl⟩, hc, World.grownBy.refl _ _⟩
  · by_cases h1 : n ≤ 256
    · go_enter Tryd.func51, Tryd.ntmps51
      go_wp2_with (go_at_call 63; refine (s_l01Byte _ _ _ _ _ hc).mono ?_; rintro e w1 ⟨x, rfl, hx0, hx1, hc1, hg1⟩)
      go_ret
      have h2 := Int.emod_lt_of_pos x (show 0 < n by omega)
      have h3 := Int.emod_nonneg x (show n ≠ 0 by omega)
      exact ⟨x % n, rfl, ⟨h3, .inl h2⟩, hc1, hg1⟩
    · go_enter Tryd.func51, Tryd.ntmps51
      go_wp2_with fail
      refine (s_l01Byte _ _ _ _ _ hc).mono ?_
      rintro e w1 ⟨x1, rfl, hx10, hx11, hc1, hg1⟩
      go_wp2_with fail
      refine (s_l01Byte _ _ _ _ _ hc1).mono ?_
      rintro e w2 ⟨x2, rfl, hx20, hx21, hc2, hg2⟩
      go_wp2_with fail
      refine (s_l01Byte _ _ _ _ _ hc2).mono ?_
      rintro e w3 ⟨x3, rfl, hx30, hx31, hc3, hg3⟩
      go_wp2_with fail
      refine (s_l01Byte _ _ _ _ _ hc3).mono ?_
      rintro e w4 ⟨x4, rfl, hx40, hx41, hc4, hg4⟩
      go_wp2_with fail
      go_ret
      have h2 := Int.emod_lt_of_pos (x1 * 16777216 + x2 * 65536 + x3 * 256 + x4) (show 0 < n by omega)
      have h3 := Int.emod_nonneg (x1 * 16777216 + x2 * 65536 + x3 * 256 + x4) (show n ≠ 0 by omega)
      exact ⟨_, rfl, ⟨h3, .inl h2⟩, hc4, grown_trans hg1 (grown_trans hg2 (grown_trans hg3 hg4))⟩

def OnceP (w : World) (c : Nat) (a : Option Addr) (len cap : Nat) (e : Ending) (w' : World) : Prop :=
  ∃ b : Bool, e = .returned (.bool b) ∧ Cur w' c a len cap ∧ w.grownBy w' (some c)

def Among (zs : List Int) (x : Int) : Prop := ∃ k, k < zs.length ∧ x = zs.getD k 0
theorem s_l01PickInt (w : World) (c : Nat) (a : Option Addr) (len cap : Nat) (B L : Nat) (zs : List Int) (hz : zs.length = L) (h0 : 0 < L) (hL : L ≤ 9223372036854775807) (hB : B ≠ c) (hcell : ∀ j, j < L → w.cell? ⟨B, j, none⟩ = some (.int .i64 (zs.getD j 0))) (hc : Cur w c a len cap) : Calls Tryd.prog 48 #[.pointer (some ⟨c, 0, none⟩), .slice (some ⟨B, 0, none⟩) L L] w (NumP (Among zs) w c a len cap) := by
  have hB' : some B ≠ some c := by simpa using hB
  have HC := Lib.hid hcell
  clear hcell
  go_enter Tryd.func48, Tryd.ntmps48
  go_wp2_with fail
  refine (s_l01Below _ _ _ _ _ _ (by omega) hc).mono ?_
  rintro e w1 ⟨x, rfl, hx, hc1, hg1⟩
  obtain ⟨k, rfl⟩ : ∃ k : Nat, x = (k : Int) := ⟨x.toNat, by have := hx.1; omega⟩
  have hk : k < L := by rcases hx.2 with h | h <;> omega
  have hcell := hg1.cell (HC.out k hk) hB'
  have hk' : (k : Int) < (L : Int) := by omega
  have hR : Hid (Among zs (zs.getD k 0)) := ⟨k, by omega, rfl⟩
  obtain ⟨v, hv⟩ : ∃ v, v = zs.getD k 0 := ⟨_, rfl⟩
  rw [← hv] at hcell hR
  clear hv hx
  go_wp2_with fail
  go_ret
  exact ⟨v, rfl, hR.out, hc1, hg1⟩
end Go.Proofs.YtpbflceekikbiaaDoor
