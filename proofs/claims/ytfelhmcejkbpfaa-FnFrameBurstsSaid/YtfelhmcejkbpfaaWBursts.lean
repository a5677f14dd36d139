/-
  The law FnBursts. No conditions.
-/
import Derived.Test.YtfelhmcejkbpfaaWFlip
import Derived.Test.YtfelhmcejkbpfaaWSeal
import Derived.Test.YtfelhmcejkbpfaaDraw
import Derived.Deep.QuietTactic
import Derived.BigQuiet
import Derived.IntWalk
namespace Go.Proofs.Ytfelhmcejkbpfaa
open Go.ChangeShapes Go.WideShapes Go.ChangeAt Go.RowKit

theorem code_below {w w' : World} {a : Option Addr} {len B : Nat} (h : Code8 w a len) (hb : Below B w w') (hB : w.heap.size ≤ B) : Code8 w' a len := by
  intro j hj
  obtain ⟨b, off, x, h1, h2, h3⟩ := h j hj
  exact ⟨b, off, x, h1, (hb.cell (Nat.lt_of_lt_of_le (World.block_lt_of_cell? w _ h2) hB)).trans h2, h3⟩
theorem mk_data (l : List UInt8) : (⟨l.toArray⟩ : ByteArray).data.toList = l := by simp
theorem mk_size (l : List UInt8) : (⟨l.toArray⟩ : ByteArray).size = l.length := by simp [ByteArray.size]

def DrawLP (n : Nat) (w : World) (e : Ending) (w' : World) : Prop := ∃ l : List UInt8, e = .returned (.string ⟨l.toArray⟩) ∧ l.length ≤ n ∧ Below w.heap.size w w'
theorem s_DrawSumOf (w : World) (a : Option Addr) (len cap : Nat) (hm : len ≤ 1048576) (hcode : Code8 w a len) : Calls Try.prog 36 #[.slice a len cap] w (DrawLP 40 w) := by
  have HC := Lib.hid hcode
  clear hcode
  go_enter Try.func36, Try.ntmps36
  go_wp2_with fail
  refine (s_l01New w a len cap hm HC.out).mono ?_
  rintro e w1 ⟨c, rfl, hcb, hc1, hb1⟩
  go_wp2_with fail
  refine (s_l01Below _ _ _ _ _ _ (by omega) hc1).mono ?_
  rintro e w2 ⟨x, rfl, hx, hc2, hg2⟩
  have hx0 := hx.1
  have hx1 : x ≤ 40 := by have := hx.2; omega
  clear hx
  obtain ⟨y, rfl⟩ : ∃ n : Nat, x = (n : Int) := ⟨x.toNat, by omega⟩
  go_wp2_with fail
  refine (s_l01Text_in _ _ _ _ _ y (by omega) hc2).mono ?_
  rintro e w3 ⟨l, rfl, hl, _, hc3, hg3⟩
  have hg := below_grown (grown_trans hg2 hg3) hcb hb1.size
  clear hg2 hg3 hc2 hc3
  go_wp2_with fail
  go_ret
  exact ⟨l, rfl, by omega, hb1.trans hg⟩

theorem seal_mk (l : List UInt8) (h : l.length ≤ 20000) : sealR ⟨l.toArray⟩ = (⟨(Crc.sealedL l).toArray⟩, true) := by
  unfold sealR
  rw [mk_size, if_pos h, mk_data]
theorem unseal_burst (l : List UInt8) (b k : Nat) (hb : b < 2 ^ 32) (hodd : b % 2 = 1) (hk : k < 8 * (Crc.sealedL l).length) : unsealR ⟨(Crc.flip (Crc.sealedL l) (b * 2 ^ k)).toArray⟩ = (⟨#[]⟩, false) := by
  refine if_neg (fun hc => ?_)
  obtain ⟨_, _, h⟩ := hc
  rw [mk_data] at h
  exact Crc.burst l _ b k hb hodd hk h.symm
theorem flip_at (l : List UInt8) (b k : Nat) (hb : b ≤ 4294967295) : flipV ⟨l.toArray⟩ (k : Int) (b : Int) = Crc.flip l (b * 2 ^ k) := by
  unfold flipV
  rw [if_pos ⟨by omega, by omega, by omega⟩, mk_data]
  rfl

theorem walk_FnBursts (a : Option Addr) (len cap : Nat) (zs : List Int) (w : World) (hz : IsRow .u8 w a len cap zs) : Calls Try.prog 11 #[.slice a len cap] w fun e w' => e = .returned (.bool true) ∧ Below w.heap.size w w' := by
  have HC := Lib.hid (code_of hz)
  have hm : len ≤ 9223372036854775807 := by
    rcases hz with ⟨_, rfl, _⟩ | ⟨x, _, hl, hm, _⟩
    · omega
    · unfold maxLen at hm; omega
  clear hz
  by_cases hb : (1048576 : Int) < (len : Int)
  · have hd : decide ((1048576 : Int) < (len : Int)) = true := by simpa using hb
    go_enter Try.func11, Try.ntmps11
    go_wp2_with (go_at_call 27; refine (l_big _ _ _ _ hm).mono ?_; rintro e w' ⟨rfl, rfl⟩)
    go_ret
    exact ⟨rfl, Below.refl _ _⟩
  · go_enter Try.func11, Try.ntmps11
    go_wp2_with (go_at_call 27; refine (l_big _ _ _ _ hm).mono ?_; rintro e w' ⟨rfl, rfl⟩)
    refine (s_DrawPlaces w a len cap (by omega) HC.out).mono ?_
    rintro e w1 ⟨g, cp, ps, rfl, hg, hcells, hps, hb1⟩
    have hs1 := hb1.size
    have c0 := hcells 0 (by omega)
    have c1 := hcells 1 (by omega)
    have c2 := hcells 2 (by omega)
    have p0 := (hps 0).1
    have p0' := (hps 0).2
    have p1 := (hps 1).1
    have p1' := (hps 1).2
    have p2 := (hps 2).1
    have p2' := (hps 2).2
    obtain ⟨x, hx⟩ : ∃ x : Nat, ps 0 = x := ⟨(ps 0).toNat, by omega⟩
    obtain ⟨y, hy⟩ : ∃ y : Nat, ps 1 = y := ⟨(ps 1).toNat, by omega⟩
    obtain ⟨z, hz⟩ : ∃ z : Nat, ps 2 = z := ⟨(ps 2).toNat, by omega⟩
    rw [hx] at c0 p0 p0'
    rw [hy] at c1 p1 p1'
    rw [hz] at c2 p2 p2'
    clear hcells hps hx hy hz
    go_wp2_with fail
    have hgl : g < w1.heap.size := World.block_lt_of_cell? w1 _ c0
    refine (s_DrawSumOf w1 a len cap (by omega) (code_below HC.out hb1 (Nat.le_refl _))).mono ?_
    rintro e w2 ⟨l, rfl, hl, hb2⟩
    have hs2 := hb2.size
    have d0 : w2.cell? ⟨g, 0, none⟩ = some (.int .i64 x) := (hb2.cell hgl).trans c0
    have d1 : w2.cell? ⟨g, 1, none⟩ = some (.int .i64 y) := (hb2.cell hgl).trans c1
    have d2 : w2.cell? ⟨g, 2, none⟩ = some (.int .i64 z) := (hb2.cell hgl).trans c2
    clear c0 c1 c2
    have HSE := Lib.hid (seal_mk l (by omega))
    obtain ⟨S, hS⟩ : ∃ S, Crc.sealedL l = S := ⟨_, rfl⟩
    have hSl : S.length = l.length + 4 := by rw [← hS]; unfold Crc.sealedL; rw [List.length_append, Crc.fix_length]
    obtain ⟨n, hn⟩ : ∃ n, l.length = n := ⟨_, rfl⟩
    rw [hn] at hSl hl
    have HL : Hid (l.length = n) := hn
    clear hn
    go_wp2_with fail
    refine (i_Sealed ⟨l.toArray⟩ (by rw [mk_size, HL.out]; omega) _).mono ?_
    rintro e w3 ⟨rfl, hb3⟩
    rw [HSE.out, hS]
    have hs3 := hb3.size
    have f0 : w3.cell? ⟨g, 0, none⟩ = some (.int .i64 x) := (hb3.cell (Nat.lt_of_lt_of_le hgl hs2)).trans d0
    have f1 : w3.cell? ⟨g, 1, none⟩ = some (.int .i64 y) := (hb3.cell (Nat.lt_of_lt_of_le hgl hs2)).trans d1
    have f2 : w3.cell? ⟨g, 2, none⟩ = some (.int .i64 z) := (hb3.cell (Nat.lt_of_lt_of_le hgl hs2)).trans d2
    clear d0 d1 d2
    have HS := Lib.hid hS
    clear hS
    go_wp2_with fail
    go_quiet (fail)
    obtain ⟨B, hB⟩ : ∃ B : Nat, 1 + 2 * ((x : Int) * 10000 + (y : Int)) = (B : Int) := ⟨1 + 2 * (x * 10000 + y), by omega⟩
    obtain ⟨hB1, hB2⟩ : B ≤ 4294967295 ∧ B % 2 = 1 := by omega
    obtain ⟨K, hK⟩ : ∃ K : Nat, z % (8 * (n + 4)) = K := ⟨_, rfl⟩
    have hK1 : K < 8 * (n + 4) := by rw [← hK]; exact Nat.mod_lt _ (by omega)
    have hSL : Hid (S.length = n + 4) := by unfold Hid; omega
    have HLn : Hid ((⟨l.toArray⟩ : ByteArray).size = n) := by unfold Hid; rw [mk_size, HL.out]
    have HK : Hid (Int.tmod (z : Int) (8 * ((n : Int) + 4)) = (K : Int)) := by
      unfold Hid
      rw [← hK, show (8 * ((n : Int) + 4)) = ((8 * (n + 4) : Nat) : Int) by omega, Int.tmod_eq_emod_of_nonneg (by omega)]
      rfl
    clear p0 p0' p1 p1' p2 p2' hK
    have e1 := HK.out
    have e2 : (z : Int) % (8 * ((n : Int) + 4)) = (K : Int) := by rw [← e1, Int.tmod_eq_emod_of_nonneg (by omega)]
    have e3 := HLn.out
    have e4 : l.length = n := HL.out
    go_wp2_with fail
    obtain ⟨T, hT⟩ : ∃ T, Crc.flip S (B * 2 ^ K) = T := ⟨_, rfl⟩
    have hTl : T.length = S.length := by rw [← hT, Crc.flip_length]
    have hTS : T ≠ S := by rw [← hT]; exact Crc.flip_ne S B K (by omega) hB2 (by omega)
    have HU : Hid (unsealR ⟨T.toArray⟩ = (⟨#[]⟩, false)) := by
      unfold Hid
      rw [← hT, ← HS.out]
      exact unseal_burst l B K (by omega) hB2 (by rw [HS.out]; omega)
    have HFl : Hid (flipV ⟨S.toArray⟩ (K : Int) (B : Int) = T) := by unfold Hid; rw [flip_at S B K hB1, hT]
    have HFl2 : Hid (flipV ⟨T.toArray⟩ (K : Int) (B : Int) = S) := by unfold Hid; rw [flip_at T B K hB1, ← hT, Crc.flip_flip]
    have ht : (T == S) = false := beq_eq_false_iff_ne.2 hTS
    have hSs : (⟨S.toArray⟩ : ByteArray).size ≤ 2147483648 := by rw [mk_size]; omega
    have hTs : (⟨T.toArray⟩ : ByteArray).size ≤ 2147483648 := by rw [mk_size]; omega
    clear hT hTS
    refine (i_Flipped ⟨S.toArray⟩ K B hSs (by omega) _).mono ?_
    rintro e w4 ⟨rfl, hb4⟩
    rw [HFl.out]
    have hs4 : w3.heap.size ≤ w4.heap.size := hb4.size
    go_wp2_with fail
    refine (i_Unsealed ⟨T.toArray⟩ hTs _).mono ?_
    rintro e w5 ⟨rfl, hb5⟩
    rw [HU.out]
    have hs5 := hb5.size
    go_wp2_with fail
    refine (i_Flipped ⟨T.toArray⟩ K B hTs (by omega) _).mono ?_
    rintro e w6 ⟨rfl, hb6⟩
    rw [HFl2.out]
    have hs6 := hb6.size
    go_wp2_with fail
    go_ret
    refine ⟨rfl, ?_⟩
    refine hb1.trans ((hb2.mono hs1).trans ((hb3.mono (by omega)).trans ?_))
    refine (below_drewN (Below.refl _ _) nq).trans ((hb4.mono (by show w.heap.size ≤ w3.heap.size; omega)).trans ((hb5.mono (by omega)).trans (hb6.mono (by omega))))
end Go.Proofs.Ytfelhmcejkbpfaa
