/-
  Unhex (both sides) and its law. No conditions.
-/
import Derived.Test.YtpbflceekikbiaaDoorWHex
import Derived.Test.YtpbflceekikbiaaDoorShelf
namespace Go.Proofs.YtpbflceekikbiaaDoor
open Go.ChangeShapes Go.WideShapes Go.ChangeAt Go.RowKit

/-- A figure's value; 16 and more: none. -/
def valU (c : Nat) : Int := if 48 ≤ c ∧ c ≤ 57 then (c : Int) - 48 else if 97 ≤ c ∧ c ≤ 102 then (c : Int) - 87 else -1
theorem val_bd (c : Nat) : -1 ≤ valU c ∧ valU c ≤ 15 := by
  unfold valU
  split
  · omega
  · split <;> omega
def unL : List UInt8 → Option (List UInt8)
  | [] => some []
  | [_] => none
  | a :: b :: r => if valU a.toNat < 0 ∨ valU b.toNat < 0 then none else (unL r).map (UInt8.ofNat (16 * valU a.toNat + valU b.toNat).toNat :: ·)
theorem un_end : unL [] = some [] := rfl
theorem un_no {a b : UInt8} {r : List UInt8} (h : valU a.toNat < 0 ∨ valU b.toNat < 0) : unL (a :: b :: r) = none := if_pos h
theorem un_yes {a b : UInt8} {r : List UInt8} (h : ¬ (valU a.toNat < 0 ∨ valU b.toNat < 0)) : unL (a :: b :: r) = (unL r).map (UInt8.ofNat (16 * valU a.toNat + valU b.toNat).toNat :: ·) := if_neg h
def unR (s : ByteArray) : ByteArray × Bool :=
  if s.size ≤ 40000 ∧ s.size % 2 = 0 then match unL s.data.toList with
    | some l => (⟨l.toArray⟩, true)
    | none => (⟨#[]⟩, false)
  else (⟨#[]⟩, false)
/-- The loop's word: what has been made, and what is to come. -/
def Goes (s : ByteArray) (k : Nat) (X : List UInt8) : Prop := unL s.data.toList = (unL (s.data.toList.drop k)).map (X ++ ·)
theorem goes_start (s : ByteArray) : Goes s 0 [] := by
  unfold Goes
  show unL s.data.toList = (unL s.data.toList).map ([] ++ ·)
  cases unL s.data.toList <;> rfl
theorem two_at {s : ByteArray} {k : Nat} (h : k + 1 < s.size) : s.data.toList.drop k = s[k] :: s[k + 1] :: s.data.toList.drop (k + 2) := by
  have h1 : k < s.data.toList.length := by simp; omega
  have h2 : k + 1 < s.data.toList.length := by simp; omega
  rw [List.drop_eq_getElem_cons h1, List.drop_eq_getElem_cons h2]
  simp
  exact ⟨rfl, rfl⟩
theorem goes_no {s : ByteArray} {k : Nat} {X : List UInt8} (h : k + 1 < s.size) (hg : Goes s k X) (hv : valU s[k].toNat < 0 ∨ valU s[k + 1].toNat < 0) : unL s.data.toList = none := by
  unfold Goes at hg
  rw [hg, two_at h, un_no hv]
  rfl
theorem goes_yes {s : ByteArray} {k : Nat} {X : List UInt8} (h : k + 1 < s.size) (hg : Goes s k X) (hv : ¬ (valU s[k].toNat < 0 ∨ valU s[k + 1].toNat < 0)) : Goes s (k + 2) (X ++ [UInt8.ofNat (16 * valU s[k].toNat + valU s[k + 1].toNat).toNat]) := by
  unfold Goes at hg ⊢
  rw [hg, two_at h, un_yes hv]
  cases unL (s.data.toList.drop (k + 2)) <;> simp
theorem goes_end {s : ByteArray} {X : List UInt8} (hg : Goes s s.size X) : unL s.data.toList = some X := by
  unfold Goes at hg
  rw [hg, List.drop_of_length_le (by simp)]
  simp [unL]
theorem un_ok {s : ByteArray} {X : List UInt8} (h : s.size ≤ 40000 ∧ s.size % 2 = 0) (hu : unL s.data.toList = some X) : unR s = (⟨X.toArray⟩, true) := by
  unfold unR
  rw [if_pos h, hu]
theorem un_bad {s : ByteArray} (hu : unL s.data.toList = none) : unR s = (⟨#[]⟩, false) := by
  unfold unR
  split
  · rw [hu]
  · rfl

theorem index_fig : ∀ c : Fin 256, Lib.indexByte [48, 49, 50, 51, 52, 53, 54, 55, 56, 57, 97, 98, 99, 100, 101, 102] (UInt8.ofNat c.val) = valU c.val := by decide +kernel
theorem i_index (c : Nat) (hc : c < 256) (w : World) : Calls Tryd.prog 52 #[.string ⟨#[48, 49, 50, 51, 52, 53, 54, 55, 56, 57, 97, 98, 99, 100, 101, 102]⟩, .int .u8 (c : Int)] w fun e w' => e = .returned (.int .i64 (valU c)) ∧ w = w' := by
  refine (Tryd.strings_IndexByte ⟨#[48, 49, 50, 51, 52, 53, 54, 55, 56, 57, 97, 98, 99, 100, 101, 102]⟩ (c : Int) w).mono fun e w' h => ⟨?_, h.2.symm⟩
  rw [h.1]
  have e1 : ((c : Int).toNat.toUInt8) = UInt8.ofNat c := by simp
  have e2 : (⟨#[48, 49, 50, 51, 52, 53, 54, 55, 56, 57, 97, 98, 99, 100, 101, 102]⟩ : ByteArray).data.toList = [48, 49, 50, 51, 52, 53, 54, 55, 56, 57, 97, 98, 99, 100, 101, 102] := rfl
  rw [e1, e2, index_fig ⟨c, hc⟩]


theorem i_Unhex (s : ByteArray) (hs : s.size ≤ 2147483648) (w : World) : Calls Tryd.prog 32 #[.string s] w fun e w' => e = .returned (.tuple #[.string (unR s).1, .bool (unR s).2]) ∧ Below w.heap.size w w' := by
  obtain ⟨R, hR⟩ : ∃ R, unR s = R := ⟨_, rfl⟩
  rw [hR]
  have HR := Lib.hid hR
  clear hR
  have hmod : (((s.size : Int) % 2 != 0) = true ∧ s.size % 2 = 1 ∧ (s.size : Int) % 2 = 1) ∨ (((s.size : Int) % 2 != 0) = false ∧ s.size % 2 = 0 ∧ (s.size : Int) % 2 = 0) := by
    rcases Nat.mod_two_eq_zero_or_one s.size with h | h
    · have h2 : (s.size : Int) % 2 = 0 := by omega
      exact .inr ⟨by rw [h2]; decide, h, h2⟩
    · have h2 : (s.size : Int) % 2 = 1 := by omega
      exact .inl ⟨by rw [h2]; decide, h, h2⟩
  by_cases hb : (40000 : Int) < (s.size : Int)
  · have HU : Hid ((⟨#[]⟩, false) = R) := by rw [← HR.out]; exact (if_neg (by omega)).symm
    rcases hmod with ⟨h1, h2, h3⟩ | ⟨h1, h2, h3⟩
    all_goals
      clear h2
      go_enter Tryd.func32, Tryd.ntmps32
      go_wp2_with fail
      go_ret2
      exact ⟨ret_hb HU.out.symm, by go_grown⟩
  · rcases hmod with ⟨h1, h2, h3⟩ | ⟨h1, h2, h3⟩
    · have HU : Hid ((⟨#[]⟩, false) = R) := by rw [← HR.out]; exact (if_neg (by omega)).symm
      clear h2
      go_enter Tryd.func32, Tryd.ntmps32
      go_wp2_with fail
      go_ret2
      exact ⟨ret_hb HU.out.symm, by go_grown⟩
    · have H2 := Lib.hid h2
      clear h2
      obtain ⟨i0, hi, hz0, hz1, hz2⟩ := info_parts infoByte
      obtain ⟨q, hq⟩ : ∃ q : Nat, s.size / 2 = q := ⟨_, rfl⟩
      have hq2 : (s.size : Int) / 2 = (q : Int) := by omega
      have hq3 : Int.tdiv (s.size : Int) 2 = (q : Int) := by rw [Int.tdiv_eq_ediv_of_nonneg (by omega)]; exact hq2
      have hqb : q ≤ 20000 := by omega
      clear hq
      have hmk : ∀ u : World, (Instr.makeSlice 27 (.int .i64 0) (.int .i64 (q : Int))).run Tryd.prog u =
          .ok (.slice (some ⟨u.heap.size, 0, none⟩) 0 q) (u.alloc (.cells (madeCells #[.int .u8 0] q) 5)) := fun u => by
        have h := run_make (P := Tryd.prog) u 27 5 i0 (.int .u8 0) Tryd.underlying27 hi hz0 .i64 .i64 0 (q : Int) (by omega) (by omega) (by rw [hz2]; omega) (by omega)
        simpa [hz1, Value.cells] using h
      go_enter Tryd.func32, Tryd.ntmps32
      go_wp2_with fail
      go_loopw [4, 5] (fun v i wr => ∃ (k : Nat) (X : List UInt8), i = .int .i64 k ∧ k ≤ s.size ∧ Hid (k % 2 = 0) ∧ X.length ≤ k ∧ Hid (Goes s k X) ∧ OwnB wr w.heap.size v X ∧ Below w.heap.size w wr) (fun _ i _ => s.size - (intOf i).toNat)
      case atStart => exact ⟨0, [], rfl, by omega, rfl, by simp, goes_start s, OwnB.made w _ q (madeCells #[.int .u8 0] q) (Nat.le_refl _) (by unfold maxLen; omega) (by simp [madeCells]), by go_grown⟩
      case round =>
        obtain ⟨k, X, rfl, hk, H0, hX, HG, hown, hbel⟩ := hrel
        clear hmk hi hz0 hz1 hz2
        by_cases hlt : k < s.size
        · have hk1 : k + 1 < s.size := by have := H0.out; have := H2.out; omega
          have hlt' : (k : Int) < (s.size : Int) := by omega
          have hlt2 : (k : Int) + 1 < (s.size : Int) := by omega
          obtain ⟨c1, hc1⟩ : ∃ c : Nat, s[k].toNat = c := ⟨_, rfl⟩
          obtain ⟨c2, hc2⟩ : ∃ c : Nat, s[k + 1].toNat = c := ⟨_, rfl⟩
          have b1 : c1 < 256 := by rw [← hc1]; exact UInt8.toNat_lt _
          have b2 : c2 < 256 := by rw [← hc2]; exact UInt8.toNat_lt _
          have g1 := goes_no hk1 HG.out
          have g2 := goes_yes hk1 HG.out
          rw [hc1, hc2] at g1 g2
          obtain ⟨x1, hx1⟩ : ∃ x, valU c1 = x := ⟨_, rfl⟩
          obtain ⟨x2, hx2⟩ : ∃ x, valU c2 = x := ⟨_, rfl⟩
          have d1 := val_bd c1
          have d2 := val_bd c2
          rw [hx1] at g1 g2 d1
          rw [hx2] at g1 g2 d2
          obtain ⟨d10, d11⟩ := d1
          obtain ⟨d20, d21⟩ := d2
          have HV1 := Lib.hid hx1
          have HV2 := Lib.hid hx2
          have ei1 : (s[k].toNat : Int) = (c1 : Int) := by rw [hc1]
          have ei2 : (s[k + 1].toNat : Int) = (c2 : Int) := by rw [hc2]
          have G1 := Lib.hid g1
          have G2 := Lib.hid g2
          have HO := Lib.hid hown
          clear g1 g2 hx1 hx2 hc1 hc2 hown
          by_cases hn1 : x1 < 0
          · have HU : Hid ((⟨#[]⟩, false) = R) := by rw [← HR.out]; exact (un_bad (G1.out (.inl hn1))).symm
            go_wp2_with (go_at_call 52; refine (i_index _ (by omega) _).mono ?_; rintro e w' ⟨rfl, rfl⟩; first | rw [HV1.out] | rw [HV2.out])
            go_ret2
            exact ⟨ret_hb HU.out.symm, hbel⟩
          · by_cases hn2 : x2 < 0
            · have HU : Hid ((⟨#[]⟩, false) = R) := by rw [← HR.out]; exact (un_bad (G1.out (.inr hn2))).symm
              go_wp2_with (go_at_call 52; refine (i_index _ (by omega) _).mono ?_; rintro e w' ⟨rfl, rfl⟩; first | rw [HV1.out] | rw [HV2.out])
              go_ret2
              exact ⟨ret_hb HU.out.symm, hbel⟩
            · have G3 := Lib.hid (G2.out (by omega))
              obtain ⟨b, hb'⟩ : ∃ b, UInt8.ofNat (16 * x1 + x2).toNat = b := ⟨_, rfl⟩
              have hbv : 16 * x1 + x2 = (b.toNat : Int) := by rw [← hb', UInt8.toNat_ofNat']; omega
              have HBV := Lib.hid hbv
              have HG3 : Hid (Goes s (k + 2) (X ++ [b])) := by rw [← hb']; exact G3.out
              clear hbv hb' G3
              go_wp2_with (first | (go_at_call 52; refine (i_index _ (by omega) _).mono ?_; rintro e w' ⟨rfl, rfl⟩; first | rw [HV1.out] | rw [HV2.out]) | (at_builtin; refine wpList_push rfl HO.out b _ _ rfl _ rfl rfl HBV.out (by omega) hbel.size ?_; intro v3 w3 hown3 hb3))
              have hb4 := hbel.trans hb3
              clear hb3
              go_roundw
              case rel => exact ⟨k + 2, X ++ [b], by go_num, by omega, by have := H0.out; unfold Hid; omega, by simp; omega, HG3, hown3, hb4⟩
              case measure => simp [intOf]; omega
        · obtain rfl : k = s.size := by omega
          have HU : Hid ((⟨X.toArray⟩, true) = R) := by rw [← HR.out]; exact (un_ok ⟨by omega, H2.out⟩ (goes_end HG.out)).symm
          have hcv := hown.conv
          clear hown
          go_wp2_with fail
          go_ret2
          exact ⟨ret_hb HU.out.symm, hbel⟩

end Go.Proofs.YtpbflceekikbiaaDoor
