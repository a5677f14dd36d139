/-
  RunesText (both sides) and its law. No conditions.
-/
import Derived.Test.YtedmfoogllekeaaWRune
import Derived.Test.YtedmfoogllekeaaInts
import Derived.Lib.AppendStr
namespace Go.Proofs.Ytedmfoogllekeaa
open Go.ChangeShapes Go.WideShapes Go.ChangeAt Go.RowKit

theorem runeT_size (n : Int) : (runeT n).size ≤ 4 := by
  cases h : runeOkB n
  · rw [show runeT n = ⟨#[]⟩ from if_neg (by rw [h]; decide)]
    exact Nat.zero_le _
  · obtain ⟨h0, _, _⟩ := rok_parts h
    have hv := rok_valid h
    obtain ⟨m, rfl⟩ : ∃ m : Nat, n = (m : Int) := ⟨n.toNat, by omega⟩
    rw [show runeT (m : Int) = Utf8.encode (m : Int) from if_pos h]
    by_cases h2 : m < 128
    · rw [enc1 h2 hv]; exact (by decide : 1 ≤ 4)
    · by_cases h3 : m < 2048
      · rw [enc2 h2 h3 hv]; exact (by decide : 2 ≤ 4)
      · by_cases h4 : m < 65536
        · rw [enc3 h3 h4 hv]; exact (by decide : 3 ≤ 4)
        · rw [enc4 h4 hv]; exact (by decide : 4 ≤ 4)
def runesL (l : List Int) : List UInt8 := l.flatMap fun n => (runeT n).data.toList
theorem runesL_snoc (l : List Int) {k : Nat} (h : k < l.length) : runesL (l.take (k + 1)) = runesL (l.take k) ++ (runeT (l.getD k 0)).data.toList := by
  have e3 : l.getD k 0 = l[k] := by simp [List.getD, List.getElem?_eq_getElem h]
  rw [List.take_succ_eq_append_getElem h, e3]
  unfold runesL
  rw [List.flatMap_append]
  simp
theorem runesL_len : ∀ l : List Int, (runesL l).length ≤ 4 * l.length
  | [] => by simp [runesL]
  | n :: l => by
    have h1 := runesL_len l
    have h2 := runeT_size n
    have h3 : (runeT n).data.toList.length = (runeT n).size := by simp
    have e : runesL (n :: l) = (runeT n).data.toList ++ runesL l := by unfold runesL; rw [List.flatMap_cons]
    rw [e, List.length_append, List.length_cons]
    omega
theorem app_str (X : List UInt8) (T : ByteArray) : (⟨X.toArray⟩ : ByteArray) ++ T = ⟨(X ++ T.data.toList).toArray⟩ := by
  apply ByteArray.ext
  apply Array.toList_inj.1
  simp
theorem mk_sz (l : List UInt8) : (⟨l.toArray⟩ : ByteArray).size = l.length := by simp [ByteArray.size]

theorem i_RunesText (w : World) (g len : Nat) (l : List Int) (hl : l.length = len) (hm : len ≤ 1048576) (h1 : HasI w g l) (hin : ∀ j, j < l.length → -9223372036854775808 ≤ l.getD j 0 ∧ l.getD j 0 ≤ 9223372036854775807) : Calls Try.prog 15 #[.slice (some ⟨g, 0, none⟩) len len] w fun e w' => e = .returned (.string ⟨(runesL l).toArray⟩) ∧ w = w' := by
  have HL := Lib.hid hl
  have H1 := Lib.hid h1
  have HN := Lib.hid hin
  have HB : Hid (∀ k, (runesL (l.take k)).length ≤ 4 * len) := fun k => Nat.le_trans (runesL_len _) (by have : (l.take k).length ≤ l.length := List.length_take_le' k l; omega)
  clear hl h1 hin
  go_enter Try.func15, Try.ntmps15
  go_wp2_with fail
  go_loop [3, 8] (fun s i => ∃ k : Nat, i = .int .i64 k ∧ k ≤ len ∧ s = .string ⟨(runesL (l.take k)).toArray⟩) (fun _ i => len - (intOf i).toNat)
  case atStart => exact ⟨0, rfl, by omega, rfl⟩
  case round =>
    obtain ⟨k, rfl, hk, rfl⟩ := hrel
    by_cases hlt : k < len
    · have hcell := H1.out.cell k (by rw [HL.out]; exact hlt)
      have hz := HN.out k (by rw [HL.out]; exact hlt)
      have hsn := runesL_snoc l (k := k) (by rw [HL.out]; exact hlt)
      have hXl := HB.out k
      obtain ⟨z, hz'⟩ : ∃ z, l.getD k 0 = z := ⟨_, rfl⟩
      rw [hz'] at hcell hz hsn
      obtain ⟨T, hT⟩ : ∃ T, runeT z = T := ⟨_, rfl⟩
      have HC : Hid (∀ w, Calls Try.prog 8 #[.int .i64 z] w fun e w' => e = .returned (.string T) ∧ w = w') := fun w => by rw [← hT]; exact i_RuneText z hz w
      have hTs : T.size ≤ 4 := by rw [← hT]; exact runeT_size z
      rw [hT] at hsn
      obtain ⟨X, hX⟩ : ∃ X, runesL (l.take k) = X := ⟨_, rfl⟩
      rw [hX] at hsn hXl ⊢
      have HS := Lib.hid hsn
      have happ := app_str X T
      have hsz : ¬ 9223372036854775807 < X.length + T.size := by omega
      clear hsn hX hT hz' hz
      go_wp2_with (go_at_call 8; refine (HC.out _).mono ?_; rintro e w' ⟨rfl, rfl⟩)
      go_round
      case rel => exact ⟨k + 1, by go_num, by omega, by rw [HS.out]⟩
      case measure => simp [intOf]; omega
    · have HE : Hid (l.take k = l) := List.take_of_length_le (by rw [HL.out]; omega)
      go_wp2_with fail
      go_ret
      exact ⟨by rw [HE.out]; rfl, rfl⟩

theorem s_RunesText (w : World) (g len : Nat) (l : List Int) (hl : l.length = len) (hm : len ≤ 1048576) (h1 : HasI w g l) : Calls Try.prog 13 #[.slice (some ⟨g, 0, none⟩) len len] w fun e w' => e = .returned (.string ⟨(runesL l).toArray⟩) ∧ Below w.heap.size w w' := by
  have HL := Lib.hid hl
  have H1 := Lib.hid h1
  have hgl := h1.lt
  have HB : Hid (∀ k, (runesL (l.take k)).length ≤ 4 * len) := fun k => Nat.le_trans (runesL_len _) (by have : (l.take k).length ≤ l.length := List.length_take_le' k l; omega)
  obtain ⟨i0, hi, hz0, hz1, hz2⟩ := info_parts infoByte
  clear hl h1
  go_enter Try.func13, Try.ntmps13
  go_wp2_with fail
  go_loopw [3, 4] (fun v i wr => ∃ k : Nat, i = .int .i64 k ∧ k ≤ len ∧ OwnB wr w.heap.size v (runesL (l.take k)) ∧ Below w.heap.size w wr) (fun _ i _ => len - (intOf i).toNat)
  case atStart => exact ⟨0, rfl, by omega, OwnB.made w _ 0 #[] (Nat.le_refl _) (by decide) rfl, by go_grown⟩
  case round =>
    obtain ⟨k, rfl, hk, hown, hbel⟩ := hrel
    by_cases hlt : k < len
    · have hcell := H1.out.cell k (by rw [HL.out]; exact hlt)
      have hsn := runesL_snoc l (k := k) (by rw [HL.out]; exact hlt)
      have hXl := HB.out k
      obtain ⟨z, hz'⟩ : ∃ z, l.getD k 0 = z := ⟨_, rfl⟩
      rw [hz'] at hcell hsn
      obtain ⟨T, hT⟩ : ∃ T, runeT z = T := ⟨_, rfl⟩
      have HC : Hid (∀ w, Calls Try.prog 7 #[.int .i64 z] w fun e w' => e = .returned (.string T) ∧ Below w.heap.size w w') := fun w => by rw [← hT]; exact s_RuneText z w
      have hTs : T.size ≤ 4 := by rw [← hT]; exact runeT_size z
      rw [hT] at hsn
      obtain ⟨X, hX⟩ : ∃ X, runesL (l.take k) = X := ⟨_, rfl⟩
      rw [hX] at hsn hXl hown
      have HS := Lib.hid hsn
      have hcb : wr.cell? ⟨g, k, none⟩ = some (.int .i64 z) := (hbel.cell hgl).trans hcell
      have HO := Lib.hid hown
      clear hsn hX hT hz' hcell hown
      go_wp2_with fail
      refine (HC.out _).mono ?_
      rintro e w1 ⟨rfl, hb1⟩
      have hown1 : OwnB w1 w.heap.size _ X := OwnB.below HO.out (fun q hq => hb1.block q (World.ownsRow.lt HO.out q hq).2)
      have hb2 := hbel.trans (hb1.mono hbel.size)
      clear hb1 hbel
      go_wp2_with (at_builtin; refine Lib.wpList_append_own_string _ rfl _ _ 32 9 rfl w.heap.size 5 i0 Try.underlying32 Try.underlying9 hi hz0 hz1 hz2 _ X.length (bc X) rfl hown1 T rfl (by unfold maxLen; omega) (by omega) hb2.size ?_; intro v2 w2 hown2 hg2 _)
      have hB3 := hb2.grown hg2 hb2.size (fun q hq => (World.ownsRow.lt hown1 q hq).1)
      have hO3 : Hid (OwnB w2 w.heap.size v2 (X ++ T.data.toList)) := by
        unfold Hid OwnB
        rw [bc_append, List.length_append, show T.data.toList.length = T.size by simp]
        exact hown2
      clear hown2 hg2 hown1 hb2
      go_roundw
      case rel => exact ⟨k + 1, by go_num, by omega, by rw [HS.out]; exact hO3.out, hB3⟩
      case measure => simp [intOf]; omega
    · have HE : Hid (l.take k = l) := List.take_of_length_le (by rw [HL.out]; omega)
      have hcv := hown.conv
      clear hown
      go_wp2_with fail
      go_ret
      exact ⟨by rw [HE.out]; rfl, hbel⟩

theorem walk_FnExactRunesText (a : Option Addr) (len cap : Nat) (zs : List Int) (w : World) (hz : IsRow .i64 w a len cap zs) : Calls Try.prog 6 #[.slice a len cap] w fun e w' => e = .returned (.bool true) ∧ Below w.heap.size w w' := by
  obtain ⟨hcode, hlen⟩ := code64_of hz
  have hm : len ≤ 9223372036854775807 := by
    rcases hz with ⟨_, rfl, _⟩ | ⟨x, _, hl, hm, _⟩
    · omega
    · unfold maxLen at hm; omega
  clear hz
  generalize zs.take len = l at hcode hlen
  have HN : Hid (∀ j, j < l.length → -9223372036854775808 ≤ l.getD j 0 ∧ l.getD j 0 ≤ 9223372036854775807) := fun j hj => by obtain ⟨_, _, _, _, h1, h2⟩ := hcode j hj; exact ⟨h1, h2⟩
  have HC := Lib.hid hcode
  have HL := Lib.hid hlen
  clear hcode hlen
  by_cases hb : (1048576 : Int) < (len : Int)
  · go_enter Try.func6, Try.ntmps6
    go_wp2_with fail
    go_ret
    exact ⟨rfl, Below.refl _ _⟩
  · obtain ⟨r, hr⟩ : ∃ r, (⟨(runesL l).toArray⟩ : ByteArray) = r := ⟨_, rfl⟩
    have HI : Hid (∀ w g, HasI w g l → Calls Try.prog 15 #[.slice (some ⟨g, 0, none⟩) len len] w fun e w' => e = .returned (.string r) ∧ w = w') := fun w g h => by rw [← hr]; exact i_RunesText w g len l HL.out (by omega) h HN.out
    have HS : Hid (∀ w g, HasI w g l → Calls Try.prog 13 #[.slice (some ⟨g, 0, none⟩) len len] w fun e w' => e = .returned (.string r) ∧ Below w.heap.size w w') := fun w g h => by rw [← hr]; exact s_RunesText w g len l HL.out (by omega) h
    clear hr
    go_enter Try.func6, Try.ntmps6
    go_wp2_with fail
    refine (l_toIntS w a len cap l HL.out (by omega) HC.out).mono ?_
    rintro e w1 ⟨rfl, hI1, hb1⟩
    have H1 := Lib.hid hI1
    have hs1 := hb1.size
    clear hI1
    go_wp2_with fail
    refine (HS.out _ _ H1.out).mono ?_
    rintro e w1' ⟨rfl, hb1'⟩
    have hb2 := hb1.trans (hb1'.mono hs1)
    have hs2 := hb2.size
    go_wp2_with fail
    refine (l_toIntS w1' a len cap l HL.out (by omega) (HC.out.below hb2 (Nat.le_refl _))).mono ?_
    rintro e w2 ⟨rfl, hI2, hb2'⟩
    have H2 := Lib.hid hI2
    have hb3 := hb2.trans (hb2'.mono hs2)
    have hs3 := hb3.size
    clear hI2
    go_wp2_with fail
    refine (HI.out _ _ H2.out).mono ?_
    rintro e w' ⟨rfl, rfl⟩
    go_wp2_with fail
    refine (l_toIntS w2 a len cap l HL.out (by omega) (HC.out.below hb3 (Nat.le_refl _))).mono ?_
    rintro e w3 ⟨rfl, hI3, hb4⟩
    have H3 := Lib.hid hI3
    have H2' := Lib.hid (H2.out.below hb4 H2.out.lt)
    clear hI3
    go_wp2_with fail
    refine (l_eqIntS w3 _ _ len l HL.out (by omega) H2'.out H3.out).mono ?_
    rintro e w4 ⟨rfl, n, rfl⟩
    go_wp2_with fail
    go_ret
    exact ⟨rfl, below_drewN (hb3.trans (hb4.mono hs3)) n⟩
end Go.Proofs.Ytedmfoogllekeaa
