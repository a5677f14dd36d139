/-
  l01Long, l01Pick, l03Text, l02Num's like; DrawReadAmount, DrawAmountText, DrawPowInt, DrawIntText. No conditions.
-/
import Derived.Test.YtpbflceekikbiaaDoorDraw
import Derived.Test.YtpbflceekikbiaaDoorWReadAmt
import Derived.Lib.ItoaLen
namespace Go.Proofs.YtpbflceekikbiaaDoor
open Go.ChangeShapes Go.WideShapes Go.ChangeAt Go.RowKit Go.Proofs.YtpbflceekikbiaaDoor.Dec

theorem set_long9 {k q : Nat} (h : k < q) : (bc (List.replicate k 57 ++ List.replicate (q - k) 0)).set k (.int .u8 57) = bc (List.replicate (k + 1) 57 ++ List.replicate (q - (k + 1)) 0) := by
  obtain ⟨m, hm⟩ : ∃ m, q - k = m + 1 := ⟨q - k - 1, by omega⟩
  have e2 : q - (k + 1) = m := by omega
  rw [hm, e2, List.replicate_succ, List.replicate_succ']
  unfold bc
  rw [List.map_append, List.set_append_right _ _ (by simp)]
  simp
theorem made_bytes (q : Nat) : (madeCells (Value.int .u8 0).cells (q * 1)).toList = bc (List.replicate q 0) := by
  rw [Nat.mul_one, show (Value.int .u8 0).cells = #[.int .u8 0] from rfl, toList_madeCells_one]
  simp [bc]
theorem s_l01Long9 (v : Int) (q : Nat) (hv : v = (q : Int)) (hq : v ≤ 41) (w : World) : Calls Tryd.prog 69 #[.int .i64 v, .int .u8 57] w fun e w' => e = .returned (.string ⟨(List.replicate q (57 : UInt8)).toArray⟩) ∧ Below w.heap.size w w' := by
  obtain ⟨i0, hi, hz0, hz1, hz2⟩ := info_parts infoByte
  have hv0 : 0 ≤ v := by omega
  have HQ := Lib.hid hv
  have HZ := Lib.hid hz2
  clear hv hz2
  go_enter Tryd.func69, Tryd.ntmps69
  go_wp2_with (with_reducible refine wpList_make_full _ rfl _ _ 27 rfl w.heap.size 5 i0 (.int .u8 0) 1 Tryd.underlying27 hi hz0 hz1 .i64 .i64 _ _ q rfl rfl HQ.out HQ.out (by rw [HZ.out]; have := HQ.out; omega) (by have := HQ.out; unfold maxLen; omega) (Nat.le_refl _) ?_; intro w1 hown1 hgr1; rw [made_bytes] at hown1)
  have hb1 : Below w.heap.size w w1 := (Below.refl _ _).grown hgr1 (Nat.le_refl _) (by intro k hk; cases hk)
  clear hgr1
  go_loopw [6] (fun i wr => ∃ k : Nat, i = .int .i64 k ∧ k ≤ q ∧ wr.ownsRow w.heap.size 5 1 (.slice (some ⟨w.heap.size, 0, none⟩) q q) q (bc (List.replicate k 57 ++ List.replicate (q - k) 0)) ∧ Below w.heap.size w wr) (fun i _ => q - (intOf i).toNat)
  case atStart => exact ⟨0, rfl, by omega, by simpa using hown1, hb1⟩
  case round =>
    obtain ⟨k, rfl, hk, hown, hbel⟩ := hrel
    by_cases hlt : k < q
    · have hc : ∃ u, wr.cell? ⟨w.heap.size, k, none⟩ = some u := by
        rw [hown.cellAt k (by omega)]
        exact ⟨_, List.getElem?_eq_getElem (by simp [bc]; omega)⟩
      obtain ⟨u, hc⟩ := hc
      have hf := hown.frozenAt k
      have hst := hown.stored k (.int .u8 57)
      rw [set_long9 hlt] at hst
      have HST := Lib.hid hst
      have hlt' : (k : Int) < v := by have := HQ.out; omega
      clear hst
      go_wp2_with fail
      go_roundw
      case rel => exact ⟨k + 1, by go_num, by omega, HST.out.1, hbel.setCell (Nat.le_refl _) _⟩
      case measure => simp [intOf]; omega
    · obtain rfl : k = q := by omega
      have hlt' : ¬ (k : Int) < v := by have := HQ.out; omega
      have hown' : OwnB wr w.heap.size (.slice (some ⟨w.heap.size, 0, none⟩) k k) (List.replicate k 57) := by
        unfold OwnB
        rw [List.length_replicate]
        simpa using hown
      have hcv := hown'.conv
      clear hown hown'
      go_wp2_with fail
      go_ret
      exact ⟨rfl, hbel⟩
/-- A text of at most n bytes, and the cursor goes on. -/
def TxtP (n : Nat) (w : World) (c : Nat) (a : Option Addr) (len cap : Nat) (e : Ending) (w' : World) : Prop :=
  ∃ T : ByteArray, e = .returned (.string T) ∧ T.size ≤ n ∧ Cur w' c a len cap ∧ w.grownBy w' (some c)
theorem s_l01Pick (w : World) (c : Nat) (a : Option Addr) (len cap : Nat) (B L : Nat) (ss : List ByteArray) (hz : ss.length = L) (h0 : 0 < L) (hL : L ≤ 9223372036854775807) (hB : B ≠ c) (hS : HasS w B ss) (hsz : ∀ x ∈ ss, x.size ≤ 20) (hc : Cur w c a len cap) : Calls Tryd.prog 68 #[.pointer (some ⟨c, 0, none⟩), .slice (some ⟨B, 0, none⟩) L L] w (TxtP 20 w c a len cap) := by
  have hB' : some B ≠ some c := by simpa using hB
  have HC := Lib.hid hS
  have HZ := Lib.hid hsz
  clear hS hsz
  go_enter Tryd.func68, Tryd.ntmps68
  go_wp2_with fail
  refine (s_l01Below _ _ _ _ _ _ (by omega) hc).mono ?_
  rintro e w1 ⟨x, rfl, hx, hc1, hg1⟩
  obtain ⟨k, rfl⟩ : ∃ k : Nat, x = (k : Int) := ⟨x.toNat, by have := hx.1; omega⟩
  have hk : k < L := by rcases hx.2 with h | h <;> omega
  have hcell := hg1.cell (HC.out.cell k (by omega)) hB'
  have hk' : (k : Int) < (L : Int) := by omega
  obtain ⟨v, hv⟩ : ∃ v, v = ss.getD k ⟨#[]⟩ := ⟨_, rfl⟩
  have hR : Hid (v.size ≤ 20) := by
    have hk2 : k < ss.length := by omega
    have e : ss.getD k ⟨#[]⟩ = ss[k] := by simp [List.getD, List.getElem?_eq_getElem hk2]
    rw [hv, e]
    exact HZ.out _ (List.getElem_mem hk2)
  rw [← hv] at hcell
  clear hv hx
  go_wp2_with fail
  go_ret
  exact ⟨v, rfl, hR.out, hc1, hg1⟩
theorem mulV_bd2 {a b : Int} : 0 ≤ mulV a b ∧ mulV a b ≤ 9223372036854775807 := by
  unfold mulV
  split
  · rename_i h
    exact ⟨Int.mul_nonneg h.1 h.2.1, h.2.2⟩
  · decide
theorem readAmt_bd (s : ByteArray) : 0 ≤ (readAmt s).1 ∧ (readAmt s).1 ≤ 9223372036854775807 := by
  unfold readAmt
  split
  · decide
  split
  · decide
  · exact mulV_bd2
theorem s_DecB (v : Int) (hv : I64 v) (w : World) : Calls Tryd.prog 15 #[.int .i64 v] w fun e w' => ∃ S : ByteArray, e = .returned (.string S) ∧ S.size ≤ 41 ∧ Below w.heap.size w w' :=
  (s_Decimal v hv.1 hv.2 w).mono fun _ _ h => ⟨_, h.1, by rw [bs_size]; exact Nat.le_trans (Lib.itoa_length_le v hv.1 hv.2) (by decide), h.2⟩
theorem s_LongB (v : Int) (hv : 0 ≤ v ∧ v ≤ 41) (w : World) : Calls Tryd.prog 69 #[.int .i64 v, .int .u8 57] w fun e w' => ∃ S : ByteArray, e = .returned (.string S) ∧ S.size ≤ 41 ∧ Below w.heap.size w w' := by
  obtain ⟨q, hq⟩ : ∃ q : Nat, v = (q : Int) := ⟨v.toNat, by omega⟩
  exact (s_l01Long9 v q hq hv.2 w).mono fun _ _ h => ⟨_, h.1, by rw [bs_size, List.length_replicate]; omega, h.2⟩
def txtL : List ByteArray := [⟨#[]⟩, ⟨#[109]⟩, ⟨#[75, 105]⟩, ⟨#[48, 49]⟩, ⟨#[49, 32]⟩, ⟨#[45, 49]⟩, ⟨#[49, 46, 53]⟩, ⟨#[49, 101, 51]⟩, ⟨#[49, 75]⟩, ⟨#[49, 109, 105]⟩, ⟨#[57, 50, 50, 51, 51, 55, 50, 48, 51, 54, 56, 53, 52, 55, 55, 53, 56, 48, 55, 109]⟩, ⟨#[57, 50, 50, 51, 51, 55, 50, 48, 51, 54, 56, 53, 52, 55, 55, 53, 56, 48, 56, 109]⟩, ⟨#[57, 50, 50, 51, 51, 55, 50, 48, 51, 54, 56, 53, 52, 55, 55, 53, 56, 48, 55]⟩, ⟨#[57, 50, 50, 51, 51, 55, 50, 48, 51, 54, 56, 53, 52, 55, 55, 53]⟩, ⟨#[57, 50, 50, 51, 51, 55, 50, 48, 51, 54, 56, 53, 52, 55, 55, 54]⟩, ⟨#[56, 84, 105]⟩, ⟨#[56, 51, 56, 56, 54, 48, 56, 84, 105]⟩, ⟨#[56, 55, 57, 54, 48, 57, 51, 71, 105]⟩, ⟨#[48, 48, 109]⟩, ⟨#[48, 109]⟩, ⟨#[48]⟩]
def lenL : List Int := [19, 39, 40, 41]
theorem txtL_in : ∀ x ∈ txtL, x.size ≤ 20 := by decide +kernel
theorem sufL_in : ∀ x ∈ sufL, x.size ≤ 20 := by decide +kernel
theorem lenL_in : ∀ z ∈ lenL, 0 ≤ z ∧ z ≤ 41 := by decide
/-- The last two steps of three of its four ways: the suffixes, one of them, and the two texts joined. -/
theorem s_l03Text (w : World) (c : Nat) (a : Option Addr) (len cap : Nat) (hc : Cur w c a len cap) : Calls Tryd.prog 58 #[.pointer (some ⟨c, 0, none⟩)] w (TxtP 61 w c a len cap) := by
  have HDec : Hid (∀ v w, I64 v → Calls Tryd.prog 15 #[.int .i64 v] w fun e w' => ∃ S : ByteArray, e = .returned (.string S) ∧ S.size ≤ 41 ∧ Below w.heap.size w w') := fun v w h => s_DecB v h w
  go_enter Tryd.func58, Tryd.ntmps58
  go_wp2_with fail
  refine (s_l01Below _ _ _ _ _ _ (by omega) hc).mono ?_
  rintro e w1 ⟨x, rfl, hx, hc1, hg1⟩
  have hcl := hc1.lt
  clear hx
  by_cases h0 : x = 0
  · have h0' : (x == 0) = true := beq_iff_eq.2 h0
    clear h0
    go_wp2_with fail
    refine (s_l01Pick (w1.alloc (.cells (txtL.map Value.string).toArray 9)) c a len cap w1.heap.size 21 txtL rfl (by decide) (by decide) (by omega) (heap_alloc_new w1 _) txtL_in (hc1.alloc _)).mono ?_
    rintro e w2 ⟨y, rfl, hy, hc2, hg2⟩
    have HY : Hid (y.size ≤ 61) := Nat.le_trans hy (by decide)
    clear hy
    go_wp2_with fail
    go_ret
    exact ⟨y, rfl, HY.out, hc2, grown_trans hg1 (grown_trans (World.grownBy_alloc _ _ _) hg2)⟩
  have h0' : (x == 0) = false := beq_eq_false_iff_ne.2 h0
  clear h0
  by_cases h1 : x = 1
  · have h1' : (x == 1) = true := beq_iff_eq.2 h1
    clear h1
    go_wp2_with fail
    refine (s_l01PickInt (w1.alloc (.cells (lenL.map (Value.int .i64)).toArray 3)) c a len cap w1.heap.size 4 lenL rfl (by decide) (by decide) (by omega) (fun j hj => new_ints w1 _ lenL j hj) (hc1.alloc _)).mono ?_
    rintro e w2 ⟨y, rfl, hy, hc2, hg2⟩
    have hgA := grown_trans hg1 (grown_trans (World.grownBy_alloc w1 (.cells (lenL.map (Value.int .i64)).toArray 3) _) hg2)
    have hyb : Hid (0 ≤ y ∧ y ≤ 41) := among_in lenL_in hy
    clear hy hg2
    go_wp2_with fail
    refine (s_LongB y hyb.out _).mono ?_
    rintro e w3 ⟨S, rfl, hS, hb3⟩
    have hc3 := hc2.below hb3 hc2.lt
    have hgB := grown_then hgA (hb3.mono hgA.size)
    clear hgA hc2 hb3
    go_wp2_with fail
    refine (s_Suffixes _).mono ?_
    rintro e w5 ⟨rfl, hSS, hb5⟩
    have hc5 := hc3.below hb5 hc3.lt
    have hgC := grown_then hgB (hb5.mono hgB.size)
    have hcl5 := hc3.lt
    have HSS := Lib.hid hSS
    have hsz5 := hb5.size
    clear hgB hc3 hb5 hSS
    go_wp2_with fail
    refine (s_l01Pick _ c a len cap _ 10 sufL rfl (by decide) (by decide) (by omega) HSS.out sufL_in hc5).mono ?_
    rintro e w6 ⟨V, rfl, hV, hc6, hg6⟩
    have hgD := grown_trans hgC hg6
    have hsV : ¬ 9223372036854775807 < S.size + V.size := by omega
    have HV : Hid ((S ++ V).size ≤ 61) := by unfold Hid; rw [ByteArray.size_append]; omega
    clear hgC hg6 hc5 hS hV
    go_wp2_with fail
    go_ret
    exact ⟨_, rfl, HV.out, hc6, hgD⟩
  have h1' : (x == 1) = false := beq_eq_false_iff_ne.2 h1
  clear h1
  by_cases h2 : x = 2
  · have h2' : (x == 2) = true := beq_iff_eq.2 h2
    clear h2
    go_wp2_with fail
    refine (s_l01Below _ _ _ _ _ _ (by omega) hc1).mono ?_
    rintro e w2 ⟨y, rfl, hy, hc2, hg2⟩
    obtain ⟨hy0, hy1⟩ := hy
    have hy2 : y ≤ 5 := by omega
    clear hy1
    go_wp2_with fail
    refine (s_l01Below _ _ _ _ _ _ (by omega) hc2).mono ?_
    rintro e w3 ⟨z, rfl, hz, hc3, hg3⟩
    obtain ⟨hz0, hz1⟩ := hz
    have hz2 : z ≤ 2 := by omega
    clear hz1
    have hgA := grown_trans hg1 (grown_trans hg2 hg3)
    clear hg2 hg3 hc2
    go_wp2_with fail
    refine (HDec.out _ _ (by first | exact i64_wrap _ | (unfold I64; omega))).mono ?_
    rintro e w4 ⟨S, rfl, hS, hb4⟩
    have hc4 := hc3.below hb4 hc3.lt
    have hgB := grown_then hgA (hb4.mono hgA.size)
    clear hgA hc3 hb4
    go_wp2_with fail
    refine (s_Suffixes _).mono ?_
    rintro e w5 ⟨rfl, hSS, hb5⟩
    have hc5 := hc4.below hb5 hc4.lt
    have hgC := grown_then hgB (hb5.mono hgB.size)
    have hcl5 := hc4.lt
    have HSS := Lib.hid hSS
    have hsz5 := hb5.size
    clear hgB hc4 hb5 hSS
    go_wp2_with fail
    refine (s_l01Pick _ c a len cap _ 10 sufL rfl (by decide) (by decide) (by omega) HSS.out sufL_in hc5).mono ?_
    rintro e w6 ⟨V, rfl, hV, hc6, hg6⟩
    have hgD := grown_trans hgC hg6
    have hsV : ¬ 9223372036854775807 < S.size + V.size := by omega
    have HV : Hid ((S ++ V).size ≤ 61) := by unfold Hid; rw [ByteArray.size_append]; omega
    clear hgC hg6 hc5 hS hV
    go_wp2_with fail
    go_ret
    exact ⟨_, rfl, HV.out, hc6, hgD⟩
  have h2' : (x == 2) = false := beq_eq_false_iff_ne.2 h2
  clear h2
  go_wp2_with fail
  refine (s_l01Below _ _ _ _ _ _ (by omega) hc1).mono ?_
  rintro e w2 ⟨y, rfl, hy, hc2, hg2⟩
  have hI : Hid (I64 y) := by have := hy.1; have := hy.2; unfold Hid I64; omega
  have hgA := grown_trans hg1 hg2
  clear hy hg2
  go_wp2_with fail
  refine (HDec.out _ _ hI.out).mono ?_
  rintro e w4 ⟨S, rfl, hS, hb4⟩
  have hc4 := hc2.below hb4 hc2.lt
  have hgB := grown_then hgA (hb4.mono hgA.size)
  clear hgA hc2 hb4
  go_wp2_with fail
  refine (s_Suffixes _).mono ?_
  rintro e w5 ⟨rfl, hSS, hb5⟩
  have hc5 := hc4.below hb5 hc4.lt
  have hgC := grown_then hgB (hb5.mono hgB.size)
  have hcl5 := hc4.lt
  have HSS := Lib.hid hSS
  have hsz5 := hb5.size
  clear hgB hc4 hb5 hSS
  go_wp2_with fail
  refine (s_l01Pick _ c a len cap _ 10 sufL rfl (by decide) (by decide) (by omega) HSS.out sufL_in hc5).mono ?_
  rintro e w6 ⟨V, rfl, hV, hc6, hg6⟩
  have hgD := grown_trans hgC hg6
  have hsV : ¬ 9223372036854775807 < S.size + V.size := by omega
  have HV : Hid ((S ++ V).size ≤ 61) := by unfold Hid; rw [ByteArray.size_append]; omega
  clear hgC hg6 hc5 hS hV
  go_wp2_with fail
  go_ret
  exact ⟨_, rfl, HV.out, hc6, hgD⟩

/-- What a Draw of a text gives. -/
def DrawXP (n : Nat) (w : World) (e : Ending) (w' : World) : Prop := ∃ T : ByteArray, e = .returned (.string T) ∧ T.size ≤ n ∧ Below w.heap.size w w'
theorem s_DrawReadAmount (w : World) (a : Option Addr) (len cap : Nat) (hm : len ≤ 1048576) (hcode : Code8 w a len) : Calls Tryd.prog 40 #[.slice a len cap] w (DrawXP 61 w) := by
  have HC := Lib.hid hcode
  clear hcode
  go_enter Tryd.func40, Tryd.ntmps40
  go_wp2_with fail
  refine (s_l01New w a len cap hm HC.out).mono ?_
  rintro e w1 ⟨c, rfl, hcb, hc1, hb1⟩
  go_wp2_with fail
  refine (s_l03Text _ _ _ _ _ hc1).mono ?_
  rintro e w2 ⟨x, rfl, hx, hc2, hg2⟩
  have hI := Lib.hid hx
  clear hx
  go_wp2_with fail
  go_ret
  exact ⟨x, rfl, hI.out, hb1.trans (below_grown hg2 hcb hb1.size)⟩
theorem s_DrawIntText (w : World) (a : Option Addr) (len cap : Nat) (hm : len ≤ 1048576) (hcode : Code8 w a len) : Calls Tryd.prog 29 #[.slice a len cap] w (DrawNP I64 w) := by
  have HC := Lib.hid hcode
  clear hcode
  go_enter Tryd.func29, Tryd.ntmps29
  go_wp2_with fail
  refine (s_l01New w a len cap hm HC.out).mono ?_
  rintro e w1 ⟨c, rfl, hcb, hc1, hb1⟩
  go_wp2_with fail
  refine (s_l02Num _ _ _ _ _ hc1).mono ?_
  rintro e w2 ⟨x, rfl, hx, hc2, hg2⟩
  have hI := Lib.hid hx
  clear hx
  go_wp2_with fail
  go_ret
  exact ⟨x, rfl, hI.out, hb1.trans (below_grown hg2 hcb hb1.size)⟩
theorem s_DrawAmountText (w : World) (a : Option Addr) (len cap : Nat) (hm : len ≤ 1048576) (hcode : Code8 w a len) : Calls Tryd.prog 43 #[.slice a len cap] w (DrawNP I64 w) := by
  have HC := Lib.hid hcode
  clear hcode
  have HRA : Hid (∀ (s : ByteArray) w, s.size ≤ 61 → Calls Tryd.prog 34 #[.string s] w fun e w' => ∃ x y : Int, e = .returned (.tuple #[.int .i64 x, .int .i64 y]) ∧ I64 x ∧ Below w.heap.size w w') := fun s w h =>
    (s_ReadAmount s (by omega) w).mono fun _ _ q => ⟨_, _, q.1, ⟨by have := (readAmt_bd s).1; omega, (readAmt_bd s).2⟩, q.2⟩
  go_enter Tryd.func43, Tryd.ntmps43
  go_wp2_with fail
  refine (s_l01New w a len cap hm HC.out).mono ?_
  rintro e w1 ⟨c, rfl, hcb, hc1, hb1⟩
  go_wp2_with fail
  refine (s_l01Below _ _ _ _ _ _ (by omega) hc1).mono ?_
  rintro e w2 ⟨x, rfl, hx, hc2, hg2⟩
  have hb2 := hb1.trans (below_grown hg2 hcb hb1.size)
  clear hx hg2
  by_cases h0 : x = 0
  · have h0' : (x == 0) = true := beq_iff_eq.2 h0
    clear h0
    go_wp2_with fail
    refine (s_l03Text _ _ _ _ _ hc2).mono ?_
    rintro e w3 ⟨T, rfl, hT, hc3, hg3⟩
    have hb3 := hb2.trans (below_grown hg3 hcb hb2.size)
    have HT := Lib.hid hT
    clear hT hg3
    go_wp2_with fail
    refine (HRA.out _ _ HT.out).mono ?_
    rintro e w4 ⟨u, v, rfl, hu, hb4⟩
    have HI := Lib.hid hu
    clear hu
    go_wp2_with fail
    go_ret
    exact ⟨u, rfl, HI.out, hb3.trans (hb4.mono hb3.size)⟩
  have h0' : (x == 0) = false := beq_eq_false_iff_ne.2 h0
  clear h0
  by_cases h1 : x = 1
  · have h1' : (x == 1) = true := beq_iff_eq.2 h1
    clear h1
    go_wp2_with fail
    refine (s_l01Below _ _ _ _ _ _ (by omega) hc2).mono ?_
    rintro e w3 ⟨y, rfl, hy, hc3, hg3⟩
    have hb3 := hb2.trans (below_grown hg3 hcb hb2.size)
    have hy0 := hy.1
    have hy1 : y ≤ 5000 := by have := hy.2; omega
    clear hy hg3
    go_wp2_with fail
    go_ret
    exact ⟨_, rfl, ⟨by omega, by omega⟩, hb3⟩
  have h1' : (x == 1) = false := beq_eq_false_iff_ne.2 h1
  clear h1
  go_wp2_with fail
  refine (s_l02Num _ _ _ _ _ hc2).mono ?_
  rintro e w3 ⟨u, rfl, hu, hc3, hg3⟩
  have HI := Lib.hid hu
  clear hu
  go_wp2_with fail
  go_ret
  exact ⟨u, rfl, HI.out, hb2.trans (below_grown hg3 hcb hb2.size)⟩
def baseL : List Int := [0, 1, 2, 3, 10, 1024, 3037000500, -1, 9223372036854775807]
def expL : List Int := [0, 1, 2, 3, 6, 18, 19, 62, 63, 100, 101, -1]
theorem baseL_in : ∀ z ∈ baseL, I64 z := by
  intro z hz
  simp only [baseL, List.mem_cons, List.not_mem_nil, or_false] at hz
  unfold I64
  omega
theorem expL_in : ∀ z ∈ expL, -1 ≤ z ∧ z ≤ 101 := by decide
def DrawPP (w : World) (e : Ending) (w' : World) : Prop := ∃ x y : Int, e = .returned (.tuple #[.int .i64 x, .int .i64 y]) ∧ I64 x ∧ (-1 ≤ y ∧ y ≤ 101) ∧ Below w.heap.size w w'
theorem s_DrawPowInt (w : World) (a : Option Addr) (len cap : Nat) (hm : len ≤ 1048576) (hcode : Code8 w a len) : Calls Tryd.prog 26 #[.slice a len cap] w (DrawPP w) := by
  have HC := Lib.hid hcode
  clear hcode
  go_enter Tryd.func26, Tryd.ntmps26
  go_wp2_with fail
  refine (s_l01New w a len cap hm HC.out).mono ?_
  rintro e w1 ⟨c, rfl, hcb, hc1, hb1⟩
  have hcl := hc1.lt
  go_wp2_with fail
  refine (s_l01PickInt (w1.alloc (.cells (baseL.map (Value.int .i64)).toArray 3)) c a len cap w1.heap.size 9 baseL rfl (by decide) (by decide) (by omega) (fun j hj => new_ints w1 _ baseL j hj) (hc1.alloc _)).mono ?_
  rintro e w2 ⟨y, rfl, hy, hc2, hg2⟩
  have hY : Hid (I64 y) := among_in baseL_in hy
  have hgA := grown_trans (World.grownBy_alloc w1 (.cells (baseL.map (Value.int .i64)).toArray 3) (some c)) hg2
  have hcl2 := hc2.lt
  clear hy hg2
  go_wp2_with fail
  refine (s_l01PickInt (w2.alloc (.cells (expL.map (Value.int .i64)).toArray 3)) c a len cap w2.heap.size 12 expL rfl (by decide) (by decide) (by omega) (fun j hj => new_ints w2 _ expL j hj) (hc2.alloc _)).mono ?_
  rintro e w3 ⟨z, rfl, hz, hc3, hg3⟩
  have hZ : Hid (-1 ≤ z ∧ z ≤ 101) := among_in expL_in hz
  have hgB := grown_trans hgA (grown_trans (World.grownBy_alloc w2 (.cells (expL.map (Value.int .i64)).toArray 3) (some c)) hg3)
  clear hz hg3 hgA
  go_wp2_with fail
  go_ret2
  exact ⟨y, z, rfl, hY.out, hZ.out, hb1.trans (below_grown hgB hcb hb1.size)⟩
end Go.Proofs.YtpbflceekikbiaaDoor
