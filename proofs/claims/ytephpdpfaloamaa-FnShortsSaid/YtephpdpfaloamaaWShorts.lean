/-
  The law FnShorts. No conditions.
-/
import Derived.Test.YtephpdpfaloamaaWVars
namespace Go.Proofs.Ytephpdpfaloamaa
open Go.ChangeShapes Go.WideShapes Go.ChangeAt Go.RowKit

def shortB (l : List UInt8) : List UInt8 := varText (l.length : Int) ++ l
theorem i_ShortText_l (l : List UInt8) (hl : l.length ≤ 2147483648) (w : World) : Calls Try.prog 27 #[.string ⟨l.toArray⟩] w fun e w' => e = .returned (.string ⟨(shortB l).toArray⟩) ∧ Below w.heap.size w w' := by
  have := i_ShortText ⟨l.toArray⟩ (by rw [sz_mk]; exact hl) w
  rw [sz_mk] at this
  simpa [shortB] using this
theorem s_ShortText_l (l : List UInt8) (hl : l.length ≤ 2147483648) (w : World) : Calls Try.prog 26 #[.string ⟨l.toArray⟩] w fun e w' => e = .returned (.string ⟨(shortB l).toArray⟩) ∧ Below w.heap.size w w' := by
  have := s_ShortText ⟨l.toArray⟩ (by rw [sz_mk]; exact hl) w
  rw [sz_mk] at this
  simpa [shortB] using this
theorem rs_short {S : ByteArray} {l t : List UInt8} (hS : S.data.toList = shortB l ++ t) (hl : l.length ≤ 2147483648) : rs S 0 = (⟨l.toArray⟩, ((shortB l).length : Int)) := by
  have hsz : S.size = (shortB l).length + t.length := by
    have : S.data.toList.length = S.size := by simp
    rw [← this, hS]; simp
  have hv : varText (l.length : Int) = Enc.varL l.length := if_neg (by omega)
  have hsl : (shortB l).length = (Enc.varL l.length).length + l.length := by unfold shortB; rw [hv]; simp
  have hpos : 1 ≤ (Enc.varL l.length).length := (Enc.varF_len 9 _).2
  have hrv : rv S 0 = ((l.length : Int), ((0 + (Enc.varL l.length).length : Nat) : Int)) := by
    refine rv_some (p := 0) (by omega) ?_
    rw [hS]
    show Enc.rd 9 0 0 (shortB l ++ t) = _
    unfold shortB
    rw [hv, List.append_assoc]
    exact Enc.rd_var _ _ (by omega)
  unfold rs
  rw [hrv]
  rw [if_neg (by simp; omega)]
  refine Prod.ext ?_ ?_
  · show S.extract (0 + (Enc.varL l.length).length) (0 + (Enc.varL l.length).length + l.length) = _
    apply ByteArray.ext
    apply Array.toList_inj.1
    rw [Nat.zero_add]
    have e : (S.extract (Enc.varL l.length).length ((Enc.varL l.length).length + l.length)).data.toList = (S.data.toList.drop (Enc.varL l.length).length).take l.length := by
      simp [List.take_drop]
    rw [e, hS]
    unfold shortB
    rw [hv, List.append_assoc, List.drop_left, List.take_left]
  · show ((0 + (Enc.varL l.length).length : Nat) : Int) + ((l.length : Nat) : Int) = ((shortB l).length : Int)
    omega
theorem rf_fix {S : ByteArray} {n : Nat} (hS : S.data.toList = 97 :: Crc.fix 4 n) (hn : n < 256 ^ 4) : rf S 1 4 = ((n : Int), true) := by
  have hsz : S.size = 5 := by
    have : S.data.toList.length = S.size := by simp
    rw [← this, hS]; simp [Crc.fix_length]
  have e : rfN S 1 4 = n := by
    unfold rfN
    rw [hS]
    show Crc.num ((Crc.fix 4 n).take 4) = n
    rw [List.take_of_length_le (by rw [Crc.fix_length]; omega), Crc.num_fix, Nat.mod_eq_of_lt hn]
  have e4 : (256 : Nat) ^ 4 = 4294967296 := by decide
  unfold rf
  rw [if_pos]
  · show ((rfN S 1 4 : Int), true) = _
    rw [e]
  · exact ⟨by omega, by omega, by omega, by omega, by show rfN S 1 4 < _; omega⟩
theorem code_below {w w' : World} {a : Option Addr} {len B : Nat} (h : Code8 w a len) (hb : Below B w w') (hB : w.heap.size ≤ B) : Code8 w' a len := by
  intro j hj
  obtain ⟨b, off, x, h1, h2, h3⟩ := h j hj
  exact ⟨b, off, x, h1, (hb.cell (Nat.lt_of_lt_of_le (World.block_lt_of_cell? w _ h2) hB)).trans h2, h3⟩
theorem rs_cut : rs ⟨#[3, 97, 98]⟩ 0 = (⟨#[]⟩, -1) := by
  have h : rv ⟨#[3, 97, 98]⟩ 0 = (3, 1) := by decide
  unfold rs
  rw [h]
  decide

theorem walk_FnShorts (a : Option Addr) (len cap : Nat) (zs : List Int) (w : World) (hz : IsRow .u8 w a len cap zs) : Calls Try.prog 13 #[.slice a len cap] w fun e w' => e = .returned (.bool true) ∧ Below w.heap.size w w' := by
  have HC := Lib.hid (code_of hz)
  have hm : len ≤ 9223372036854775807 := by
    rcases hz with ⟨_, rfl, _⟩ | ⟨x, _, hl, hm, _⟩
    · omega
    · unfold maxLen at hm; omega
  clear hz
  by_cases hb : (1048576 : Int) < (len : Int)
  · have hd : decide ((1048576 : Int) < (len : Int)) = true := by simpa using hb
    go_enter Try.func13, Try.ntmps13
    go_wp2_with (go_at_call 34; refine (l_big _ _ _ _ hm).mono ?_; rintro e w' ⟨rfl, rfl⟩)
    go_ret
    exact ⟨rfl, Below.refl _ _⟩
  · go_enter Try.func13, Try.ntmps13
    go_wp2_with (go_at_call 34; refine (l_big _ _ _ _ hm).mono ?_; rintro e w' ⟨rfl, rfl⟩)
    refine (s_DrawShortText w a len cap (by omega) HC.out).mono ?_
    rintro e w1 ⟨l, rfl, hl, hb1⟩
    have hs1 := hb1.size
    go_wp2_with fail
    refine (i_ShortText_l l (by omega) _).mono ?_
    rintro e w2 ⟨rfl, hb2⟩
    have hs2 := hb2.size
    obtain ⟨S, hS⟩ : ∃ S, shortB l = S := ⟨_, rfl⟩
    have hS2 : S.length ≤ 20011 := by rw [← hS]; unfold shortB; rw [List.length_append]; have := var_len (l.length : Int); omega
    have HS := Lib.hid hS
    rw [hS]
    clear hS
    go_wp2_with fail
    refine (i_ReadShort _ 0 (by rw [sz_app, sz_mk]; show S.length + 4 ≤ _; omega) _).mono ?_
    rintro e w' ⟨rfl, rfl⟩
    rw [rs_short (l := l) (t := [109, 111, 114, 101]) (by rw [HS.out]; simp) (by omega), HS.out]
    go_wp2_with fail
    refine (s_DrawPlaces w2 a len cap (by omega) (code_below (code_below HC.out hb1 (Nat.le_refl _)) hb2 (Nat.le_refl _))).mono ?_
    rintro e w3 ⟨g, cp, ps, rfl, hg, hcells, hps, hb3⟩
    have hs3 := hb3.size
    have c0 := hcells 0 (by omega)
    have c1 := hcells 1 (by omega)
    have p0 := (hps 0).1
    have p0' := (hps 0).2
    have p1 := (hps 1).1
    have p1' := (hps 1).2
    obtain ⟨x, hx⟩ : ∃ x, ps 0 = x := ⟨_, rfl⟩
    obtain ⟨y, hy⟩ : ∃ y, ps 1 = y := ⟨_, rfl⟩
    rw [hx] at c0 p0 p0'
    rw [hy] at c1 p1 p1'
    clear hcells hps hx hy
    go_wp2_with fail
    go_quiet (fail)
    go_wp2_with fail
    have e4 : (256 : Nat) ^ 4 = 4294967296 := by decide
    refine (i_FixedText _ 4 (by omega) _).mono ?_
    rintro e w4 ⟨rfl, hb4⟩
    have hs4 : w3.heap.size ≤ w4.heap.size := hb4.size
    rw [show fixText (x * 10000 + y) 4 = Crc.fix 4 (x * 10000 + y).toNat from if_pos ⟨by omega, by omega, by omega, by show (x * 10000 + y).toNat < 256 ^ 4; omega⟩]
    obtain ⟨F, hF⟩ : ∃ F, Crc.fix 4 (x * 10000 + y).toNat = F := ⟨_, rfl⟩
    have hF4 : F.length = 4 := by rw [← hF]; exact Crc.fix_length _ _
    rw [hF]
    have HF := Lib.hid hF
    have HF4 := Lib.hid hF4
    have hF5 : F.length ≤ 4 := by omega
    clear hF hF4
    go_wp2_with fail
    refine (i_ReadFixed _ 1 4 (by rw [sz_app, sz_mk]; show 1 + F.length ≤ _; omega) (by omega) _).mono ?_
    rintro e w' ⟨rfl, rfl⟩
    rw [rf_fix (n := (x * 10000 + y).toNat) (by rw [HF.out]; simp) (by omega), show (((x * 10000 + y).toNat : Nat) : Int) = x * 10000 + y by omega]
    go_wp2_with fail
    refine (s_ShortText_l [97, 98, 99] (by decide) _).mono ?_
    rintro e w5 ⟨rfl, hb5⟩
    have hs5 := hb5.size
    rw [show shortB [97, 98, 99] = [3, 97, 98, 99] by decide]
    go_wp2_with fail
    refine (i_ReadShort ⟨#[3, 97, 98]⟩ 0 (by decide) _).mono ?_
    rintro e w' ⟨rfl, rfl⟩
    rw [rs_cut]
    go_wp2_with fail
    refine (i_ShortText_l l (by omega) _).mono ?_
    rintro e w6 ⟨rfl, hb6⟩
    have hs6 := hb6.size
    rw [HS.out]
    have hF6 : ((F.length : Int) == 4) = true := by rw [HF4.out]; rfl
    go_wp2_with fail
    refine (i_FixedText 256 1 (by omega) _).mono ?_
    rintro e w7 ⟨rfl, hb7⟩
    rw [show fixText 256 1 = [] by decide]
    go_wp2_with fail
    go_ret
    refine ⟨rfl, ?_⟩
    refine hb1.trans ((hb2.mono hs1).trans ((hb3.mono (by omega)).trans ?_))
    refine (below_drewN (Below.refl _ _) nq).trans ((hb4.mono (by show w.heap.size ≤ w3.heap.size; omega)).trans ((hb5.mono (by omega)).trans ((hb6.mono (by omega)).trans (hb7.mono (by omega)))))
end Go.Proofs.Ytephpdpfaloamaa
