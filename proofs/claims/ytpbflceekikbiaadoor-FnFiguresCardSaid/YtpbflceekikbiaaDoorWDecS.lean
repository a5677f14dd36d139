/-
  Decimal of spec. No conditions.
-/
import Derived.Test.YtpbflceekikbiaaDoorDec
import Derived.Test.YtpbflceekikbiaaDoorWHex
namespace Go.Proofs.YtpbflceekikbiaaDoor
open Go.ChangeShapes Go.WideShapes Go.ChangeAt Go.RowKit Go.Proofs.YtpbflceekikbiaaDoor.Dec

theorem ret_strB {a b : ByteArray} (h : a = b) : Ending.returned (.string a) = .returned (.string b) := by rw [h]
theorem conv_byte' (w : World) (b : Nat) (x : UInt8) (h : w.cell? ⟨b, 0, none⟩ = some (.int .u8 (x.toNat : Int))) : (convert 27 9 (.slice (some ⟨b, 0, none⟩) 1 1)).run Tryd.prog w = .ok (.string ⟨#[x]⟩) w := by
  refine run_convert_bytes_back (P := Tryd.prog) w 27 9 5 ⟨b, 0, none⟩ 1 [x] Tryd.underlying27 Tryd.underlying5 Tryd.underlying9 (fun j hj => ?_)
  obtain rfl : j = 0 := by simpa using hj
  exact h
theorem app_front' (x : UInt8) (l : List UInt8) : (⟨#[x]⟩ : ByteArray) ++ ⟨l.toArray⟩ = ⟨(x :: l).toArray⟩ := by
  apply ByteArray.ext
  apply Array.toList_inj.1
  simp
theorem fig_dec {d : Nat} (h : d < 10) : figU d = UInt8.ofNat (48 + d) := if_pos h

theorem s_Decimal_pos (n : Nat) (hn : 0 < n) (hm : n ≤ 9223372036854775807) (w : World) : Calls Tryd.prog 15 #[.int .i64 (n : Int)] w fun e w' => e = .returned (.string ⟨(full n []).toArray⟩) ∧ Below w.heap.size w w' := by
  have h0 : ((n : Int) == 0) = false := beq_eq_false_iff_ne.2 (by omega)
  have h1 : ¬ (n : Int) < 0 := by omega
  have h2 : decide ((n : Int) < 0) = false := decide_eq_false h1
  obtain ⟨R, hR⟩ : ∃ R, full n [] = R := ⟨_, rfl⟩
  rw [hR]
  have HR := Lib.hid hR
  clear hR
  have hf0 : n < 10 ^ 19 := by omega
  go_enter Tryd.func15, Tryd.ntmps15
  go_wp2_with fail
  go_loopw [0, 4] (fun i s wr => ∃ (f q : Nat) (acc : List UInt8), s = .string ⟨acc.toArray⟩ ∧ i = .int .i64 (q : Int) ∧ q < 10 ^ f ∧ q ≤ 9223372036854775807 ∧ acc.length + f = 19 ∧ Hid (full q acc = R) ∧ Below w.heap.size w wr) (fun i _ _ => (intOf i).toNat)
  case atStart => exact ⟨19, n, [], rfl, rfl, hf0, hm, rfl, HR, Below.refl _ _⟩
  case round =>
    obtain ⟨f, q, acc, rfl, rfl, hf, hq, hacc, HD, hbel⟩ := hrel
    by_cases hpos : 0 < q
    · obtain ⟨g, rfl⟩ : ∃ g, f = g + 1 := by
        rcases f with _ | f
        · simp at hf; omega
        · exact ⟨f, rfl⟩
      have HG : Hid (q / 10 < 10 ^ g) := by unfold Hid; rw [Nat.pow_succ] at hf; omega
      obtain ⟨x, hx⟩ : ∃ x, UInt8.ofNat (48 + q % 10) = x := ⟨_, rfl⟩
      have HD2 : Hid (full (q / 10) (x :: acc) = R) := by rw [← HD.out, ← hx, full_step acc hpos]; rfl
      have HF : Hid (∀ w, Calls Tryd.prog 44 #[.int .i64 ((q : Int) % 10)] w fun e w' => e = .returned (.int .u8 (x.toNat : Int)) ∧ w = w') := fun w => by
        have := s_l01Figure (q % 10) (by omega) w
        rw [fig_dec (by omega), hx, show ((q % 10 : Nat) : Int) = (q : Int) % 10 by omega] at this
        exact this
      obtain ⟨z, hz⟩ : ∃ z : Int, (x.toNat : Int) = z := ⟨_, rfl⟩
      have hcv : ∀ (w : World) (b : Nat), w.cell? ⟨b, 0, none⟩ = some (.int .u8 (x.toNat : Int)) → (convert 27 9 (.slice (some ⟨b, 0, none⟩) 1 1)).run Tryd.prog w = .ok (.string ⟨#[x]⟩) w := fun w b => conv_byte' w b x
      rw [hz] at hcv HF
      have happ := app_front' x acc
      have hsz : ¬ 9223372036854775807 < 1 + acc.length := by omega
      have HA := Lib.hid hacc
      have hne : ((q : Int) != 0) = true := bne_iff_ne.2 (by omega)
      have hd0 : ¬ (q : Int) % 10 < 0 := by omega
      clear hx hz hf hacc HD h0 h1 h2
      go_wp2_with (go_at_call 44; refine (HF.out _).mono ?_; rintro e w' ⟨rfl, rfl⟩)
      go_roundw
      case rel => exact ⟨g, q / 10, x :: acc, rfl, by go_num, HG.out, by omega, by have := HA.out; simp; omega, HD2, hbel.alloc hbel.size _⟩
      case measure => simp [intOf]; omega
    · have hz : q = 0 := by omega
      have HE : Hid (acc = R) := by rw [← HD.out, hz]; unfold Hid full; rfl
      subst hz
      clear hacc hf HD
      go_wp2_with fail
      go_ret
      exact ⟨ret_strB (by rw [HE.out]), hbel⟩

theorem s_Decimal_neg (n : Nat) (hn : 0 < n) (hm : n ≤ 9223372036854775808) (w : World) : Calls Tryd.prog 15 #[.int .i64 (-(n : Int))] w fun e w' => e = .returned (.string ⟨(45 :: full n []).toArray⟩) ∧ Below w.heap.size w w' := by
  have h0 : (-(n : Int) == 0) = false := beq_eq_false_iff_ne.2 (by omega)
  have h1 : -(n : Int) < 0 := by omega
  have h2 : decide (-(n : Int) < 0) = true := decide_eq_true h1
  have h3 : (0 : Int) < (n : Int) := by omega
  have h4 : decide ((0 : Int) < (n : Int)) = true := decide_eq_true h3
  have h5 : ((n : Int) == 0) = false := beq_eq_false_iff_ne.2 (by omega)
  obtain ⟨R, hR⟩ : ∃ R, full n [] = R := ⟨_, rfl⟩
  rw [hR]
  have HR := Lib.hid hR
  clear hR
  have hf0 : n < 10 ^ 19 := by omega
  obtain ⟨N, hN⟩ : ∃ N : Int, -(n : Int) = N := ⟨_, rfl⟩
  rw [hN] at h0 h1 h2 ⊢
  have HN := Lib.hid hN
  clear hN h3 h4 h5
  go_enter Tryd.func15, Tryd.ntmps15
  go_wp2_with fail
  go_loopw [0, 4] (fun i s wr => ∃ (f q : Nat) (m : Int) (acc : List UInt8), s = .string ⟨acc.toArray⟩ ∧ i = .int .i64 m ∧ Hid (m = -(q : Int)) ∧ q < 10 ^ f ∧ Hid (q ≤ 9223372036854775808) ∧ acc.length + f = 19 ∧ Hid (full q acc = R) ∧ Below w.heap.size w wr) (fun i _ _ => (-(intOf i)).toNat)
  case atStart => exact ⟨19, n, N, [], rfl, rfl, HN.out.symm, hf0, hm, rfl, HR, Below.refl _ _⟩
  case round =>
    obtain ⟨f, q, m, acc, rfl, rfl, HM, hf, HQ, hacc, HD, hbel⟩ := hrel
    have hq0 := HQ.out
    have hmq := HM.out
    by_cases hpos : 0 < q
    · obtain ⟨g, rfl⟩ : ∃ g, f = g + 1 := by
        rcases f with _ | f
        · simp at hf; omega
        · exact ⟨f, rfl⟩
      have HG : Hid (q / 10 < 10 ^ g) := by unfold Hid; rw [Nat.pow_succ] at hf; omega
      obtain ⟨x, hx⟩ : ∃ x, UInt8.ofNat (48 + q % 10) = x := ⟨_, rfl⟩
      have HD2 : Hid (full (q / 10) (x :: acc) = R) := by rw [← HD.out, ← hx, full_step acc hpos]; rfl
      obtain ⟨e, he⟩ : ∃ e, q % 10 = e := ⟨_, rfl⟩
      have he10 : e < 10 := by omega
      have HF : Hid (∀ w, Calls Tryd.prog 44 #[.int .i64 (e : Int)] w fun e w' => e = .returned (.int .u8 (x.toNat : Int)) ∧ w = w') := fun w => by
        have := s_l01Figure e (by omega) w
        rw [fig_dec he10, ← he, hx, he] at this
        exact this
      obtain ⟨z, hz⟩ : ∃ z : Int, (x.toNat : Int) = z := ⟨_, rfl⟩
      have hcv : ∀ (w : World) (b : Nat), w.cell? ⟨b, 0, none⟩ = some (.int .u8 (x.toNat : Int)) → (convert 27 9 (.slice (some ⟨b, 0, none⟩) 1 1)).run Tryd.prog w = .ok (.string ⟨#[x]⟩) w := fun w b => conv_byte' w b x
      rw [hz] at hcv HF
      have happ := app_front' x acc
      have hsz : ¬ 9223372036854775807 < 1 + acc.length := by omega
      have HA := Lib.hid hacc
      obtain ⟨h, hh⟩ : ∃ h : Int, -((q / 10 : Nat) : Int) = h := ⟨_, rfl⟩
      have hm0 : m < 0 := by omega
      have hmlo : -9223372036854775808 ≤ m := by omega
      have hne : ((m : Int) != 0) = true := bne_iff_ne.2 (by omega)
      have ht2 : Int.tdiv m 10 = h := by rw [hmq, ← hh, Int.neg_tdiv, Int.tdiv_eq_ediv_of_nonneg (by omega)]; omega
      have hhb : h ≤ 0 ∧ -9223372036854775808 ≤ h := by omega
      have hlt : (-h).toNat < (-m).toNat := by omega
      obtain ⟨hhb0, hhb1⟩ := hhb
      by_cases hez : e = 0
      · subst hez
        have ht1 : Int.tmod m 10 = 0 := by rw [hmq, Int.neg_tmod, Int.tmod_eq_emod_of_nonneg (by omega)]; omega
        have HH := Lib.hid hh
        have HL := Lib.hid hlt
        clear hx hz hf hacc HD h0 h1 h2 he hh hmq hq0 hlt
        go_wp2_with (go_at_call 44; refine (HF.out _).mono ?_; rintro e w' ⟨rfl, rfl⟩)
        go_roundw
        case rel => exact ⟨g, q / 10, h, x :: acc, rfl, rfl, HH.out.symm, HG.out, by have := HQ.out; unfold Hid; omega, by have := HA.out; simp; omega, HD2, hbel.alloc hbel.size _⟩
        case measure => exact HL.out
      · have ht1 : Int.tmod m 10 = -(e : Int) := by rw [hmq, Int.neg_tmod, Int.tmod_eq_emod_of_nonneg (by omega)]; omega
        have hd0 : -(e : Int) < 0 := by omega
        have hd1 : (0 : Int) < (e : Int) := by omega
        have HH := Lib.hid hh
        have HL := Lib.hid hlt
        clear hx hz hf hacc HD h0 h1 h2 he hh hmq hq0 hlt
        go_wp2_with (go_at_call 44; refine (HF.out _).mono ?_; rintro e w' ⟨rfl, rfl⟩)
        go_roundw
        case rel => exact ⟨g, q / 10, h, x :: acc, rfl, rfl, HH.out.symm, HG.out, by have := HQ.out; unfold Hid; omega, by have := HA.out; simp; omega, HD2, hbel.alloc hbel.size _⟩
        case measure => exact HL.out
    · have hz : q = 0 := by omega
      have HE : Hid (acc = R) := by rw [← HD.out, hz]; unfold Hid full; rfl
      have hm0 : m = 0 := by omega
      subst hm0
      have happ := app_front' 45 acc
      have hsz : ¬ 9223372036854775807 < 1 + acc.length := by omega
      clear hacc hf HD hmq HM hz
      go_wp2_with fail
      go_ret
      exact ⟨ret_strB (by rw [← HE.out]), hbel⟩

theorem s_Decimal (n : Int) (h0 : -9223372036854775808 ≤ n) (h1 : n ≤ 9223372036854775807) (w : World) : Calls Tryd.prog 15 #[.int .i64 n] w fun e w' => e = .returned (.string ⟨(Lib.itoa n).toArray⟩) ∧ Below w.heap.size w w' := by
  by_cases hz : n = 0
  · subst hz
    have HI : Hid (Lib.itoa 0 = [48]) := by
      have := Lib.itoa_nonneg 0
      rw [dec_small (by omega)] at this
      exact this
    go_enter Tryd.func15, Tryd.ntmps15
    go_wp2_with fail
    go_ret
    exact ⟨ret_strB (by rw [HI.out]), Below.refl _ _⟩
  · by_cases hp : 0 < n
    · obtain ⟨m, rfl⟩ : ∃ m : Nat, n = (m : Int) := ⟨n.toNat, by omega⟩
      rw [itoa_pos (by omega)]
      exact s_Decimal_pos m (by omega) (by omega) w
    · obtain ⟨m, rfl⟩ : ∃ m : Nat, n = -(m : Int) := ⟨(-n).toNat, by omega⟩
      rw [itoa_min (by omega)]
      exact s_Decimal_neg m (by omega) (by omega) w
end Go.Proofs.YtpbflceekikbiaaDoor
