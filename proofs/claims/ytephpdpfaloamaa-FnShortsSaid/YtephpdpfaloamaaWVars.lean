/-
  The laws FnVars and FnShorts. No conditions.
-/
import Derived.Test.YtephpdpfaloamaaWShort
import Derived.Test.YtephpdpfaloamaaWRF
import Derived.Test.YtephpdpfaloamaaDraw
import Derived.Test.YtephpdpfaloamaaConv
namespace Go.Proofs.Ytephpdpfaloamaa
open Go.ChangeShapes Go.WideShapes Go.ChangeAt Go.RowKit

theorem rv_at2 {S : ByteArray} {n : Nat} {l : List UInt8} (hS : S.data.toList = 120 :: 120 :: (l ++ [121])) (hl : l = Enc.varL n) (hn : n < 2 ^ 63) : rv S 2 = ((n : Int), ((2 + l.length : Nat) : Int)) := by
  have hsz : S.size = l.length + 3 := by
    have : S.data.toList.length = S.size := by simp
    rw [← this, hS]; simp
  refine rv_some (p := 2) (by omega) ?_
  rw [hS]
  show Enc.rd 9 0 0 (l ++ [121]) = _
  rw [hl]
  exact Enc.rd_var n _ hn
theorem rv_raise {S : ByteArray} {n : Nat} {l : List UInt8} (hS : S.data.toList = Enc.raise l ++ [0]) (hl : l = Enc.varL n) (hn : n ≤ 9223372036854775807) : rv S 0 = (0, -1) := by
  refine rv_none (p := 0) ?_
  rw [hS]
  show Enc.rd 9 0 0 (Enc.raise l ++ [0]) = _
  rw [hl]
  exact Enc.rd_long 9 9 n 0 0 (pow_9 hn)

theorem sz_app (a b : ByteArray) : (a ++ b).size = a.size + b.size := by simp
theorem sz_mk (l : List UInt8) : (⟨l.toArray⟩ : ByteArray).size = l.length := by simp [ByteArray.size]
theorem sz_xx (l : List UInt8) : ((⟨#[120, 120]⟩ : ByteArray) ++ ⟨l.toArray⟩ ++ ⟨#[121]⟩).size = l.length + 3 := by
  rw [sz_app, sz_app, sz_mk]
  show 2 + l.length + 1 = _
  omega
theorem sz_0 (l : List UInt8) : ((⟨l.toArray⟩ : ByteArray) ++ ⟨#[0]⟩).size = l.length + 1 := by
  rw [sz_app, sz_mk]
  rfl
theorem walk_FnVars (a : Option Addr) (len cap : Nat) (zs : List Int) (w : World) (hz : IsRow .u8 w a len cap zs) : Calls Try.prog 12 #[.slice a len cap] w fun e w' => e = .returned (.bool true) ∧ Below w.heap.size w w' := by
  have HC := Lib.hid (code_of hz)
  have hm : len ≤ 9223372036854775807 := by
    rcases hz with ⟨_, rfl, _⟩ | ⟨x, _, hl, hm, _⟩
    · omega
    · unfold maxLen at hm; omega
  clear hz
  by_cases hb : (1048576 : Int) < (len : Int)
  · have hd : decide ((1048576 : Int) < (len : Int)) = true := by simpa using hb
    go_enter Try.func12, Try.ntmps12
    go_wp2_with (go_at_call 34; refine (l_big _ _ _ _ hm).mono ?_; rintro e w' ⟨rfl, rfl⟩)
    go_ret
    exact ⟨rfl, Below.refl _ _⟩
  · go_enter Try.func12, Try.ntmps12
    go_wp2_with (go_at_call 34; refine (l_big _ _ _ _ hm).mono ?_; rintro e w' ⟨rfl, rfl⟩)
    refine (s_DrawVarText w a len cap (by omega) HC.out).mono ?_
    rintro e w1 ⟨n, rfl, hn, hb1⟩
    have hn1 := hn.1
    have hn2 := hn.2
    clear hn
    go_wp2_with fail
    refine (i_VarText n ⟨hn1, hn2⟩ _).mono ?_
    rintro e w2 ⟨rfl, hb2⟩
    by_cases h0 : n < 0
    · rw [show varText n = [] from if_pos h0]
      go_wp2_with fail
      refine (i_VarText 1 ⟨by omega, by omega⟩ _).mono ?_
      rintro e w3 ⟨rfl, hb3⟩
      rw [show varText 1 = [1] from by decide]
      go_wp2_with fail
      go_ret
      exact ⟨rfl, hb1.trans ((hb2.mono hb1.size).trans (hb3.mono (by have := hb1.size; have := hb2.size; omega)))⟩
    · obtain ⟨n, rfl⟩ : ∃ m : Nat, n = (m : Int) := ⟨n.toNat, by omega⟩
      obtain ⟨l, hl⟩ : ∃ l, varText n = l := ⟨_, rfl⟩
      have hl10 : l.length ≤ 10 := by rw [← hl]; exact var_len _
      have hv : l = Enc.varL n := by rw [← hl]; exact if_neg h0
      have hl1 : 1 ≤ l.length := by rw [hv]; exact (Enc.varF_len 9 n).2
      have HL := Lib.hid hl
      have HV := Lib.hid hv
      rw [hl]
      clear hl hv
      have hne : l.isEmpty = false := by cases l with
        | nil => simp at hl1
        | cons c t => rfl
      have hnil : (l == []) = false := by cases l with
        | nil => simp at hl1
        | cons c t => rfl
      have hs1 := hb1.size
      have hs2 := hb2.size
      go_wp2_with fail
      refine (i_ReadVar _ 2 (by rw [sz_xx]; omega) _).mono ?_
      rintro e w' ⟨rfl, rfl⟩
      rw [rv_at2 (n := n) (l := l) (by simp) HV.out (by omega)]
      obtain ⟨cp, W, hconv, hbuf, hbel, hsz⟩ := conv_bytes w2 ⟨l.toArray⟩
      have hbuf' : Buf W w2.heap.size l := by simpa using hbuf
      have hlt : l.length - 1 < l.length := by omega
      obtain ⟨y, hy⟩ : ∃ y, y = l[l.length - 1] := ⟨_, rfl⟩
      have c0 := hbuf'.cell (l.length - 1) hlt
      have f0 := hbuf'.free (l.length - 1) hlt
      rw [← hy] at c0
      have hset := (hbuf'.set (l.length - 1) (UInt8.ofNat (y.toNat + 128)) (((y.toNat : Int) + 128) % 256) (by rw [UInt8.toNat_ofNat']; omega))
      have hR : l.set (l.length - 1) (UInt8.ofNat (y.toNat + 128)) = Enc.raise l := by
        unfold Enc.raise
        rw [hy]
        simp [List.getD, List.getElem?_eq_getElem hlt]
      rw [hR] at hset
      have hrl : (Enc.raise l).length = l.length := by unfold Enc.raise; simp
      have hcv := hset.conv cp l.length hrl.symm
      have HRL := Lib.hid hrl
      have HSZ := Lib.hid hsz
      have hrl2 : (Enc.raise l).length + 1 ≤ 9223372036854775807 := by omega
      clear hbuf hbuf' hset hR hy hlt hrl hsz
      go_wp2_with fail
      refine (i_ReadVar _ 0 (by rw [sz_0, HRL.out]; omega) _).mono ?_
      rintro e w' ⟨rfl, rfl⟩
      rw [rv_raise (n := n) (l := l) (by simp) HV.out (by omega)]
      go_wp2_with fail
      refine (i_VarSize n ⟨by omega, by omega⟩ _).mono ?_
      rintro e w4 ⟨rfl, hb4⟩
      rw [HL.out]
      go_wp2_with fail
      go_ret
      refine ⟨rfl, hb1.trans ((hb2.mono hb1.size).trans ((hbel.mono ?_).trans ((((Below.refl _ W).setCell (p := ⟨w2.heap.size, l.length - 1, none⟩) ?_ _).mono (Nat.le_refl _)).trans (hb4.mono ?_))))⟩
      · omega
      · show w.heap.size ≤ w2.heap.size; omega
      · have := HSZ.out; simp; omega
end Go.Proofs.Ytephpdpfaloamaa
