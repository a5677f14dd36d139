/-
  AmountText, ReadAmount, NormalAmount, CompareAmounts (both sides) and their laws. No conditions beyond the listed variables' places.
-/
import Derived.Test.YtpbflceekikbiaaDoorWRInt
import Derived.Test.YtpbflceekikbiaaDoorAmt
import Derived.Deep.RegionWith
import Derived.Deep.DeepCutAuto
namespace Go.Proofs.YtpbflceekikbiaaDoor
open Go.ChangeShapes Go.WideShapes Go.ChangeAt Go.RowKit Go.Proofs.YtpbflceekikbiaaDoor.Dec

theorem ret_am {a b : ByteArray} (h : a = b) : Ending.returned (.string a) = .returned (.string b) := by rw [h]
theorem str_am {a b : ByteArray} (h : a = b) : Value.string a = .string b := by rw [h]
theorem up_step {f u k : Nat} (h : 0 < u ∧ u % 1024 = 0) : upF (f + 1) u k = upF f (u / 1024) (k + 1) := if_pos h
theorem up_stop {f u k : Nat} (h : ¬ (0 < u ∧ u % 1024 = 0)) : upF f u k = (u, k) := by
  cases f with
  | zero => rfl
  | succ f => exact if_neg h
theorem cell_new {w b : World} {cs : Array Value} {t : TypeId} {j : Nat} {x : Value} (k : Below (w.alloc (.cells cs t)).heap.size (w.alloc (.cells cs t)) b) (h : cs[j]? = some x) : b.cell? ⟨w.heap.size, j, none⟩ = some x := by
  rw [k.cell (by simp), cell_of_row _ _ j _ _ (0, 0) (heap_alloc_new w _), h]
theorem below_dr {B : Nat} {w a b : World} (h : Below B w a) (hB : B ≤ a.heap.size) (k : Below a.drew.heap.size a.drew b) : Below B w b := h.drew.trans (k.mono hB)
theorem below_al {B : Nat} {w a b : World} {o : Obj} (h : Below B w a) (hB : B ≤ a.heap.size) (k : Below (a.alloc o).heap.size (a.alloc o) b) : Below B w b := (h.alloc hB o).trans (k.mono (by simp; omega))
theorem below_ald {B : Nat} {w a b : World} {o : Obj} (h : Below B w a) (hB : B ≤ a.heap.size) (k : Below (a.alloc o).drew.heap.size (a.alloc o).drew b) : Below B w b := (h.alloc hB o).drew.trans (k.mono (by show B ≤ (a.alloc o).heap.size; simp; omega))
theorem cell_new_d {w b : World} {cs : Array Value} {t : TypeId} {j : Nat} {x : Value} (k : Below (w.alloc (.cells cs t)).drew.heap.size (w.alloc (.cells cs t)).drew b) (h : cs[j]? = some x) : b.cell? ⟨w.heap.size, j, none⟩ = some x :=
  cell_new (below_dr (Below.refl _ _) (Nat.le_refl _) k) h
theorem amt_neg {n : Int} (h : n < 0) : amtL n = [] := if_pos h
theorem amt_m {n : Nat} (h : n % 1000 ≠ 0) : amtL (n : Int) = Lib.decDigits n ++ [109] := by
  unfold amtL
  rw [if_neg (by omega), if_pos (by omega)]
  rfl
theorem amt_up {n u k : Nat} (h : n % 1000 = 0) (hu : upF 4 (n / 1000) 0 = (u, k)) : amtL (n : Int) = Lib.decDigits u ++ sufK k := by
  unfold amtL
  rw [if_neg (by omega), if_neg (by omega)]
  simp only [Int.toNat_natCast, hu]
theorem cat_mk (a b : List UInt8) : (⟨a.toArray⟩ : ByteArray) ++ ⟨b.toArray⟩ = ⟨(a ++ b).toArray⟩ := by
  apply ByteArray.ext
  apply Array.toList_inj.1
  simp
theorem suf_at : sufK 0 = [] ∧ sufK 1 = [75, 105] ∧ sufK 2 = [77, 105] ∧ sufK 3 = [71, 105] ∧ sufK 4 = [84, 105] := by decide

set_option maxHeartbeats 32000000 in
theorem s_AmountText (n : Int) (hn : -9223372036854775808 ≤ n ∧ n ≤ 9223372036854775807) (w : World) : Calls Tryd.prog 19 #[.int .i64 n] w fun e w' => e = .returned (.string ⟨(amtL n).toArray⟩) ∧ Below w.heap.size w w' := by
  obtain ⟨hn0, hn1⟩ := hn
  by_cases hneg : n < 0
  · rw [amt_neg hneg]
    go_enter Tryd.func19, Tryd.ntmps19
    go_wp2_with fail
    go_ret
    exact ⟨rfl, Below.refl _ _⟩
  · obtain ⟨N, hN⟩ : ∃ N : Nat, n = (N : Int) := ⟨n.toNat, by omega⟩
    by_cases hm : n % 1000 = 0
    · obtain ⟨u, k, hu⟩ : ∃ u k, upF 4 (N / 1000) 0 = (u, k) := ⟨_, _, rfl⟩
      have hR := amt_up (n := N) (by omega) hu
      rw [← hN] at hR
      obtain ⟨h1, h2, h3⟩ := up_val 4 (N / 1000) 0
      rw [hu] at h1 h2 h3
      have hub : u ≤ 9223372036854775807 := by simp only [] at h3; omega
      have hkb : k ≤ 4 := by simpa using h2
      have hlen : (Lib.decDigits u).length ≤ 19 := dec_len 18 u (by omega)
      obtain ⟨R, hRR⟩ : ∃ R : ByteArray, (⟨(amtL n).toArray⟩ : ByteArray) = R := ⟨_, rfl⟩
      rw [hRR]
      obtain ⟨S, hS⟩ : ∃ S : ByteArray, (⟨(Lib.decDigits u).toArray⟩ : ByteArray) = S := ⟨_, rfl⟩
      obtain ⟨X, hX⟩ : ∃ X : ByteArray, (⟨(sufK k).toArray⟩ : ByteArray) = X := ⟨_, rfl⟩
      have happ : S ++ X = R := by rw [← hS, ← hX, ← hRR, hR, cat_mk]
      have hSs : S.size ≤ 19 := by rw [← hS, bs_size]; exact hlen
      have hXs : X.size ≤ 2 := by
        rw [← hX, bs_size]
        have hk5 : k = 0 ∨ k = 1 ∨ k = 2 ∨ k = 3 ∨ k = 4 := by omega
        rcases hk5 with rfl | rfl | rfl | rfl | rfl <;> decide
      have hsz : ¬ 9223372036854775807 < S.size + X.size := by omega
      have HD : Hid (∀ w, Calls Tryd.prog 15 #[.int .i64 (u : Int)] w fun e w' => e = .returned (.string S) ∧ Below w.heap.size w w') := fun w => by
        have := s_Decimal (u : Int) (by omega) (by omega) w
        rw [Lib.itoa_nonneg, hS] at this
        exact this
      have hm' : (n % 1000 != 0) = false := by rw [hm]; decide
      obtain ⟨q, hq⟩ : ∃ q : Int, n / 1000 = q := ⟨_, rfl⟩
      have hq0 : 0 ≤ q := by omega
      have hq1 : q ≤ 9223372036854775807 := by omega
      have hqN : ((N / 1000 : Nat) : Int) = q := by omega
      have HQ : Hid (q = ((N / 1000 : Nat) : Int)) := hqN.symm
      have HU := Lib.hid hu
      have HX := Lib.hid hX
      obtain ⟨ui, hui⟩ : ∃ ui : Int, (u : Int) = ui := ⟨_, rfl⟩
      have hui0 : 0 ≤ ui := by omega
      have hui1 : ui ≤ 9223372036854775807 := by omega
      have HUI : Hid ((u : Int) = ui) := hui
      rw [hui] at HD
      clear hu hR hRR hS hX h1 h2 h3 hub hlen hqN hN hm hui
      go_enter Tryd.func19, Tryd.ntmps19
      go_wp2_with fail
      go_loop [3, 4] (fun a b => ∃ (f x j : Nat) (m : Int), a = .int .i64 m ∧ b = .int .i64 (j : Int) ∧ j + f = 4 ∧ 0 ≤ m ∧ m ≤ 9223372036854775807 ∧ Hid (m = (x : Int)) ∧ Hid (upF f x j = (u, k))) (fun _ b => 4 - (intOf b).toNat)
      case atStart => exact ⟨4, N / 1000, 0, q, rfl, rfl, rfl, hq0, hq1, HQ, HU⟩
      case round =>
        obtain ⟨f, x, j, m, rfl, rfl, hjf, hm0, hm1, HM, HF⟩ := hrel
        have hend : ¬ (j < 4 ∧ 0 < x ∧ x % 1024 = 0) → x = u ∧ j = k := fun hc => by
          have hF := HF.out
          by_cases h4 : j < 4
          · rw [up_stop (fun h => hc ⟨h4, h⟩)] at hF
            exact ⟨congrArg Prod.fst hF, congrArg Prod.snd hF⟩
          · obtain rfl : f = 0 := by omega
            exact ⟨congrArg Prod.fst hF, congrArg Prod.snd hF⟩
        by_cases hc : j < 4 ∧ 0 < x ∧ x % 1024 = 0
        · obtain ⟨hj, hx0, hx1⟩ := hc
          obtain ⟨g, rfl⟩ : ∃ g, f = g + 1 := ⟨f - 1, by omega⟩
          have hMx := HM.out
          have hF2 : Hid (upF g (x / 1024) (j + 1) = (u, k)) := by rw [← HF.out, up_step ⟨hx0, hx1⟩]; rfl
          have hM2 : Hid (m / 1024 = ((x / 1024 : Nat) : Int)) := by unfold Hid; omega
          have t1 : (j : Int) < 4 := by omega
          have t2 : 0 < m := by omega
          have t3 : ((m % 1024 : Int) == 0) = true := by rw [beq_iff_eq]; omega
          have b1 : m / 1024 ≤ 9223372036854775807 := by omega
          have b2 : 0 ≤ m / 1024 := by omega
          clear hMx hx0 hx1 hend
          go_wp2_with fail
          go_round
          case rel => exact ⟨g, x / 1024, j + 1, _, rfl, by go_num, by omega, b2, b1, hM2, hF2⟩
          case measure => simp [intOf]; omega
        · obtain ⟨rfl, rfl⟩ := hend hc
          have hmu : m = ui := by have := HM.out; have := HUI.out; omega
          subst hmu
          have hk5 : j = 0 ∨ j = 1 ∨ j = 2 ∨ j = 3 ∨ j = 4 := by omega
          have hcase : (¬ (j : Int) < 4) ∨ ((j : Int) < 4 ∧ ¬ 0 < m) ∨ ((j : Int) < 4 ∧ 0 < m ∧ ((m % 1024 : Int) == 0) = false) := by
            have hMx := HM.out
            by_cases h1 : (j : Int) < 4
            · by_cases h2 : 0 < m
              · refine .inr (.inr ⟨h1, h2, beq_eq_false_iff_ne.2 ?_⟩)
                intro h3
                exact hc ⟨by omega, by omega, by omega⟩
              · exact .inr (.inl ⟨h1, h2⟩)
            · exact .inl h1
          clear hc hend HF HM
          rcases hk5 with rfl | rfl | rfl | rfl | rfl
          · have hx : (⟨#[]⟩ : ByteArray) = X := HX.out
            subst hx
            clear HX
            rcases hcase with t1 | ⟨t1, t2⟩ | ⟨t1, t2, t3⟩
            all_goals try (exfalso; omega)
            all_goals
              go_upto_region 10 with fail
              go_cut [2] (fun s2 wx => s2 = .string R ∧ Below w.heap.size w wx)
              case first =>
                go_region_with (first | (go_at_call 15; refine (HD.out _).mono ?_; rintro e w1 ⟨rfl, hb1⟩; have hg1 : Below w.heap.size w w1 := (by first | exact hb1 | exact below_dr (Below.refl _ _) (Nat.le_refl _) hb1 | exact below_al (Below.refl _ _) (Nat.le_refl _) hb1 | exact below_ald (Below.refl _ _) (Nat.le_refl _) hb1); (try (refine (have hz : w1.cell? ⟨w.heap.size, 0, none⟩ = some (.string ⟨#[]⟩) := ?_; ?_); (first | exact cell_new hb1 rfl | exact cell_new_d hb1 rfl)))))
                all_goals
                  go_wp2_with fail
                  go_meet
                  exact ⟨by first | rfl | exact str_am happ, by first | exact hg1 | exact hg1.alloc hg1.size _ | exact hg1.drew | exact (hg1.alloc hg1.size _).drew⟩
              case rest =>
                obtain ⟨rfl, hb2⟩ := hcut
                go_wp2_with fail
                go_ret
                exact ⟨rfl, hb2⟩
          · have hx : (⟨#[75, 105]⟩ : ByteArray) = X := HX.out
            subst hx
            clear HX
            rcases hcase with t1 | ⟨t1, t2⟩ | ⟨t1, t2, t3⟩
            all_goals try (exfalso; omega)
            all_goals
              go_upto_region 10 with fail
              go_cut [2] (fun s2 wx => s2 = .string R ∧ Below w.heap.size w wx)
              case first =>
                go_region_with (first | (go_at_call 15; refine (HD.out _).mono ?_; rintro e w1 ⟨rfl, hb1⟩; have hg1 : Below w.heap.size w w1 := (by first | exact hb1 | exact below_dr (Below.refl _ _) (Nat.le_refl _) hb1 | exact below_al (Below.refl _ _) (Nat.le_refl _) hb1 | exact below_ald (Below.refl _ _) (Nat.le_refl _) hb1); (try (refine (have hz : w1.cell? ⟨w.heap.size, 1, none⟩ = some (.string ⟨#[75, 105]⟩) := ?_; ?_); (first | exact cell_new hb1 rfl | exact cell_new_d hb1 rfl)))))
                all_goals
                  go_wp2_with fail
                  go_meet
                  exact ⟨by first | rfl | exact str_am happ, by first | exact hg1 | exact hg1.alloc hg1.size _ | exact hg1.drew | exact (hg1.alloc hg1.size _).drew⟩
              case rest =>
                obtain ⟨rfl, hb2⟩ := hcut
                go_wp2_with fail
                go_ret
                exact ⟨rfl, hb2⟩
          · have hx : (⟨#[77, 105]⟩ : ByteArray) = X := HX.out
            subst hx
            clear HX
            rcases hcase with t1 | ⟨t1, t2⟩ | ⟨t1, t2, t3⟩
            all_goals try (exfalso; omega)
            all_goals
              go_upto_region 10 with fail
              go_cut [2] (fun s2 wx => s2 = .string R ∧ Below w.heap.size w wx)
              case first =>
                go_region_with (first | (go_at_call 15; refine (HD.out _).mono ?_; rintro e w1 ⟨rfl, hb1⟩; have hg1 : Below w.heap.size w w1 := (by first | exact hb1 | exact below_dr (Below.refl _ _) (Nat.le_refl _) hb1 | exact below_al (Below.refl _ _) (Nat.le_refl _) hb1 | exact below_ald (Below.refl _ _) (Nat.le_refl _) hb1); (try (refine (have hz : w1.cell? ⟨w.heap.size, 2, none⟩ = some (.string ⟨#[77, 105]⟩) := ?_; ?_); (first | exact cell_new hb1 rfl | exact cell_new_d hb1 rfl)))))
                all_goals
                  go_wp2_with fail
                  go_meet
                  exact ⟨by first | rfl | exact str_am happ, by first | exact hg1 | exact hg1.alloc hg1.size _ | exact hg1.drew | exact (hg1.alloc hg1.size _).drew⟩
              case rest =>
                obtain ⟨rfl, hb2⟩ := hcut
                go_wp2_with fail
                go_ret
                exact ⟨rfl, hb2⟩
          · have hx : (⟨#[71, 105]⟩ : ByteArray) = X := HX.out
            subst hx
            clear HX
            rcases hcase with t1 | ⟨t1, t2⟩ | ⟨t1, t2, t3⟩
            all_goals try (exfalso; omega)
            all_goals
              go_upto_region 10 with fail
              go_cut [2] (fun s2 wx => s2 = .string R ∧ Below w.heap.size w wx)
              case first =>
                go_region_with (first | (go_at_call 15; refine (HD.out _).mono ?_; rintro e w1 ⟨rfl, hb1⟩; have hg1 : Below w.heap.size w w1 := (by first | exact hb1 | exact below_dr (Below.refl _ _) (Nat.le_refl _) hb1 | exact below_al (Below.refl _ _) (Nat.le_refl _) hb1 | exact below_ald (Below.refl _ _) (Nat.le_refl _) hb1); (try (refine (have hz : w1.cell? ⟨w.heap.size, 3, none⟩ = some (.string ⟨#[71, 105]⟩) := ?_; ?_); (first | exact cell_new hb1 rfl | exact cell_new_d hb1 rfl)))))
                all_goals
                  go_wp2_with fail
                  go_meet
                  exact ⟨by first | rfl | exact str_am happ, by first | exact hg1 | exact hg1.alloc hg1.size _ | exact hg1.drew | exact (hg1.alloc hg1.size _).drew⟩
              case rest =>
                obtain ⟨rfl, hb2⟩ := hcut
                go_wp2_with fail
                go_ret
                exact ⟨rfl, hb2⟩
          · have hx : (⟨#[84, 105]⟩ : ByteArray) = X := HX.out
            subst hx
            clear HX
            rcases hcase with t1 | ⟨t1, t2⟩ | ⟨t1, t2, t3⟩
            all_goals try (exfalso; omega)
            all_goals
              go_upto_region 10 with fail
              go_cut [2] (fun s2 wx => s2 = .string R ∧ Below w.heap.size w wx)
              case first =>
                go_region_with (first | (go_at_call 15; refine (HD.out _).mono ?_; rintro e w1 ⟨rfl, hb1⟩; have hg1 : Below w.heap.size w w1 := (by first | exact hb1 | exact below_dr (Below.refl _ _) (Nat.le_refl _) hb1 | exact below_al (Below.refl _ _) (Nat.le_refl _) hb1 | exact below_ald (Below.refl _ _) (Nat.le_refl _) hb1); (try (refine (have hz : w1.cell? ⟨w.heap.size, 4, none⟩ = some (.string ⟨#[84, 105]⟩) := ?_; ?_); (first | exact cell_new hb1 rfl | exact cell_new_d hb1 rfl)))))
                all_goals
                  go_wp2_with fail
                  go_meet
                  exact ⟨by first | rfl | exact str_am happ, by first | exact hg1 | exact hg1.alloc hg1.size _ | exact hg1.drew | exact (hg1.alloc hg1.size _).drew⟩
              case rest =>
                obtain ⟨rfl, hb2⟩ := hcut
                go_wp2_with fail
                go_ret
                exact ⟨rfl, hb2⟩
    · have hR := amt_m (n := N) (by omega)
      rw [← hN] at hR
      have hlen : (Lib.decDigits N).length ≤ 19 := dec_len 18 N (by omega)
      obtain ⟨R, hRR⟩ : ∃ R : ByteArray, (⟨(amtL n).toArray⟩ : ByteArray) = R := ⟨_, rfl⟩
      rw [hRR]
      obtain ⟨S, hS⟩ : ∃ S : ByteArray, (⟨(Lib.decDigits N).toArray⟩ : ByteArray) = S := ⟨_, rfl⟩
      have happ : S ++ ⟨#[109]⟩ = R := by
        have := cat_mk (Lib.decDigits N) [109]
        rw [← hS, ← hRR, hR]
        exact this
      have hSs : S.size ≤ 19 := by rw [← hS, bs_size]; exact hlen
      have hsz : ¬ 9223372036854775807 < S.size + 1 := by omega
      have HD : Hid (∀ w, Calls Tryd.prog 15 #[.int .i64 n] w fun e w' => e = .returned (.string S) ∧ Below w.heap.size w w') := fun w => by
        have := s_Decimal n (by omega) (by omega) w
        rw [hN, Lib.itoa_nonneg, hS, ← hN] at this
        exact this
      have hm' : (n % 1000 != 0) = true := bne_iff_ne.2 hm
      clear hR hRR hS hlen hN hm
      go_enter Tryd.func19, Tryd.ntmps19
      go_wp2_with fail
      refine (HD.out _).mono ?_
      rintro e w1 ⟨rfl, hb1⟩
      go_wp2_with fail
      go_ret
      exact ⟨rfl, hb1⟩

set_option maxHeartbeats 32000000 in
theorem i_AmountText (n : Int) (hn : -9223372036854775808 ≤ n ∧ n ≤ 9223372036854775807) (w : World) (hT : Tab w) : Calls Tryd.prog 20 #[.int .i64 n] w fun e w' => e = .returned (.string ⟨(amtL n).toArray⟩) ∧ Below w.heap.size w w' := by
  obtain ⟨hn0, hn1⟩ := hn
  have HT := Lib.hid hT
  clear hT
  by_cases hneg : n < 0
  · rw [amt_neg hneg]
    go_enter Tryd.func20, Tryd.ntmps20
    go_wp2_with fail
    go_ret
    exact ⟨rfl, Below.refl _ _⟩
  · obtain ⟨N, hN⟩ : ∃ N : Nat, n = (N : Int) := ⟨n.toNat, by omega⟩
    by_cases hm : n % 1000 = 0
    · obtain ⟨u, k, hu⟩ : ∃ u k, upF 4 (N / 1000) 0 = (u, k) := ⟨_, _, rfl⟩
      have hR := amt_up (n := N) (by omega) hu
      rw [← hN] at hR
      obtain ⟨h1, h2, h3⟩ := up_val 4 (N / 1000) 0
      rw [hu] at h1 h2 h3
      have hub : u ≤ 9223372036854775807 := by simp only [] at h3; omega
      have hkb : k ≤ 4 := by simpa using h2
      have hlen : (Lib.decDigits u).length ≤ 19 := dec_len 18 u (by omega)
      obtain ⟨R, hRR⟩ : ∃ R : ByteArray, (⟨(amtL n).toArray⟩ : ByteArray) = R := ⟨_, rfl⟩
      rw [hRR]
      obtain ⟨S, hS⟩ : ∃ S : ByteArray, (⟨(Lib.decDigits u).toArray⟩ : ByteArray) = S := ⟨_, rfl⟩
      obtain ⟨X, hX⟩ : ∃ X : ByteArray, (⟨(sufK k).toArray⟩ : ByteArray) = X := ⟨_, rfl⟩
      have happ : S ++ X = R := by rw [← hS, ← hX, ← hRR, hR, cat_mk]
      have hSs : S.size ≤ 19 := by rw [← hS, bs_size]; exact hlen
      have hXs : X.size ≤ 2 := by
        rw [← hX, bs_size]
        have hk5 : k = 0 ∨ k = 1 ∨ k = 2 ∨ k = 3 ∨ k = 4 := by omega
        rcases hk5 with rfl | rfl | rfl | rfl | rfl <;> decide
      have hsz : ¬ 9223372036854775807 < S.size + X.size := by omega
      have HD : Hid (∀ w, Tab w → Calls Tryd.prog 16 #[.int .i64 (u : Int)] w fun e w' => e = .returned (.string S) ∧ Below w.heap.size w w') := fun w h => by
        have := i_Decimal (u : Int) (by omega) (by omega) w h
        rw [Lib.itoa_nonneg, hS] at this
        exact this
      have hm' : (n % 1000 != 0) = false := by rw [hm]; decide
      obtain ⟨q, hq⟩ : ∃ q : Int, n / 1000 = q := ⟨_, rfl⟩
      have hq0 : 0 ≤ q := by omega
      have hq1 : q ≤ 9223372036854775807 := by omega
      have hqN : ((N / 1000 : Nat) : Int) = q := by omega
      have HQ : Hid (q = ((N / 1000 : Nat) : Int)) := hqN.symm
      have HU := Lib.hid hu
      have HX := Lib.hid hX
      obtain ⟨ui, hui⟩ : ∃ ui : Int, (u : Int) = ui := ⟨_, rfl⟩
      have hui0 : 0 ≤ ui := by omega
      have hui1 : ui ≤ 9223372036854775807 := by omega
      have HUI : Hid ((u : Int) = ui) := hui
      rw [hui] at HD
      clear hu hR hRR hS hX h1 h2 h3 hub hlen hqN hN hm hui
      have HSf : Hid (∀ j, j < 4 → (#[Value.string ⟨#[75, 105]⟩, Value.string ⟨#[77, 105]⟩, Value.string ⟨#[71, 105]⟩, Value.string ⟨#[84, 105]⟩] : Array Value)[j]? = some (.string ⟨(sufK (j + 1)).toArray⟩)) := by
        intro j hj
        have hj4 : j = 0 ∨ j = 1 ∨ j = 2 ∨ j = 3 := by omega
        rcases hj4 with rfl | rfl | rfl | rfl <;> rfl
      go_enter Tryd.func20, Tryd.ntmps20
      go_wp2_with fail
      obtain ⟨W, hW⟩ : ∃ W, w.alloc (.cells #[Value.string ⟨#[75, 105]⟩, Value.string ⟨#[77, 105]⟩, Value.string ⟨#[71, 105]⟩, Value.string ⟨#[84, 105]⟩] 9) = W := ⟨_, rfl⟩
      have hB : Below w.heap.size w W := by rw [← hW]; go_grown
      have H3 : Hid (∀ j, j < 4 → W.cell? ⟨w.heap.size, j, none⟩ = some (.string ⟨(sufK (j + 1)).toArray⟩)) := fun j hj => by
        rw [← hW, cell_of_row _ w.heap.size j _ _ (0, 0) (heap_alloc_new w _), HSf.out j hj]
      have H4 : Hid (Tab W) := HT.out.below hB
      rw [hW]
      clear hW HSf HT
      go_loop [3, 4, 19] (fun a y b => ∃ (f x j : Nat) (m : Int) (Y : ByteArray), a = .int .i64 m ∧ b = .int .i64 (j : Int) ∧ y = .string Y ∧ j + f = 4 ∧ 0 ≤ m ∧ m ≤ 9223372036854775807 ∧ Hid (m = (x : Int)) ∧ Hid (upF f x j = (u, k)) ∧ Hid (⟨(sufK j).toArray⟩ = Y)) (fun _ _ b => 4 - (intOf b).toNat)
      case atStart => exact ⟨4, N / 1000, 0, q, _, rfl, rfl, rfl, rfl, hq0, hq1, HQ, HU, rfl⟩
      case round =>
        obtain ⟨f, x, j, m, Y, rfl, rfl, rfl, hjf, hm0, hm1, HM, HF, HY⟩ := hrel
        have hend : ¬ (j < 4 ∧ 0 < x ∧ x % 1024 = 0) → x = u ∧ j = k := fun hc => by
          have hF := HF.out
          by_cases h4 : j < 4
          · rw [up_stop (fun h => hc ⟨h4, h⟩)] at hF
            exact ⟨congrArg Prod.fst hF, congrArg Prod.snd hF⟩
          · obtain rfl : f = 0 := by omega
            exact ⟨congrArg Prod.fst hF, congrArg Prod.snd hF⟩
        by_cases hc : j < 4 ∧ 0 < x ∧ x % 1024 = 0
        · obtain ⟨hj, hx0, hx1⟩ := hc
          obtain ⟨g, rfl⟩ : ∃ g, f = g + 1 := ⟨f - 1, by omega⟩
          have hMx := HM.out
          have hF2 : Hid (upF g (x / 1024) (j + 1) = (u, k)) := by rw [← HF.out, up_step ⟨hx0, hx1⟩]; rfl
          have hM2 : Hid (m / 1024 = ((x / 1024 : Nat) : Int)) := by unfold Hid; omega
          have t1 : (j : Int) < 4 := by omega
          have t2 : 0 < m := by omega
          have t3 : ((m % 1024 : Int) == 0) = true := by rw [beq_iff_eq]; omega
          have b1 : m / 1024 ≤ 9223372036854775807 := by omega
          have b2 : 0 ≤ m / 1024 := by omega
          have hcl := H3.out j hj
          obtain ⟨Z, hZ⟩ : ∃ Z : ByteArray, (⟨(sufK (j + 1)).toArray⟩ : ByteArray) = Z := ⟨_, rfl⟩
          rw [hZ] at hcl
          have HZ := Lib.hid hZ
          clear hMx hx0 hx1 hend hZ
          go_wp2_with fail
          go_round
          case rel => exact ⟨g, x / 1024, j + 1, _, Z, rfl, by go_num, rfl, by omega, b2, b1, hM2, hF2, HZ⟩
          case measure => simp [intOf]; omega
        · obtain ⟨rfl, rfl⟩ := hend hc
          have hmu : m = ui := by have := HM.out; have := HUI.out; omega
          subst hmu
          obtain rfl : Y = X := HY.out.symm.trans HX.out
          have hcase : (¬ (j : Int) < 4) ∨ ((j : Int) < 4 ∧ ¬ 0 < m) ∨ ((j : Int) < 4 ∧ 0 < m ∧ ((m % 1024 : Int) == 0) = false) := by
            have hMx := HM.out
            by_cases h1 : (j : Int) < 4
            · by_cases h2 : 0 < m
              · refine .inr (.inr ⟨h1, h2, beq_eq_false_iff_ne.2 ?_⟩)
                intro h3
                exact hc ⟨by omega, by omega, by omega⟩
              · exact .inr (.inl ⟨h1, h2⟩)
            · exact .inl h1
          have hj4 : j ≤ 4 := by omega
          have hcl : (j : Int) < 4 → ∃ Z : ByteArray, W.cell? ⟨w.heap.size, j, none⟩ = some (.string Z) := fun h => ⟨_, H3.out j (by omega)⟩
          clear hc hend HF HM HX HY
          rcases hcase with t1 | ⟨t1, t2⟩ | ⟨t1, t2, t3⟩
          case inl => 
            clear hcl
            go_wp2_with fail
            refine (HD.out _ H4.out).mono ?_
            rintro e w1 ⟨rfl, hb1⟩
            go_wp2_with fail
            go_ret
            exact ⟨by first | rfl | exact ret_am happ, hB.trans (hb1.mono hB.size)⟩
          all_goals
            obtain ⟨Z, hcl⟩ := hcl t1
            go_wp2_with fail
            refine (HD.out _ H4.out).mono ?_
            rintro e w1 ⟨rfl, hb1⟩
            go_wp2_with fail
            go_ret
            exact ⟨by first | rfl | exact ret_am happ, hB.trans (hb1.mono hB.size)⟩
    · have hR := amt_m (n := N) (by omega)
      rw [← hN] at hR
      have hlen : (Lib.decDigits N).length ≤ 19 := dec_len 18 N (by omega)
      obtain ⟨R, hRR⟩ : ∃ R : ByteArray, (⟨(amtL n).toArray⟩ : ByteArray) = R := ⟨_, rfl⟩
      rw [hRR]
      obtain ⟨S, hS⟩ : ∃ S : ByteArray, (⟨(Lib.decDigits N).toArray⟩ : ByteArray) = S := ⟨_, rfl⟩
      have happ : S ++ ⟨#[109]⟩ = R := by
        have := cat_mk (Lib.decDigits N) [109]
        rw [← hS, ← hRR, hR]
        exact this
      have hSs : S.size ≤ 19 := by rw [← hS, bs_size]; exact hlen
      have hsz : ¬ 9223372036854775807 < S.size + 1 := by omega
      have HD : Hid (∀ w, Tab w → Calls Tryd.prog 16 #[.int .i64 n] w fun e w' => e = .returned (.string S) ∧ Below w.heap.size w w') := fun w h => by
        have := i_Decimal n (by omega) (by omega) w h
        rw [hN, Lib.itoa_nonneg, hS, ← hN] at this
        exact this
      have hm' : (n % 1000 != 0) = true := bne_iff_ne.2 hm
      clear hR hRR hS hlen hN hm
      go_enter Tryd.func20, Tryd.ntmps20
      go_wp2_with fail
      refine (HD.out _ HT.out).mono ?_
      rintro e w1 ⟨rfl, hb1⟩
      go_wp2_with fail
      go_ret
      exact ⟨rfl, hb1⟩

theorem walk_FnExactAmountText (a : Int) (w : World) (_ha : (Lit.int .i64 a).wf = true) (hT : Tab w) : Calls Tryd.prog 5 #[.int .i64 a] w fun e w' => e = .returned (.bool true) ∧ Below w.heap.size w w' := by
  have HT := Lib.hid hT
  have ba := bounds_i64 _ha
  obtain ⟨T, HS, HI⟩ : ∃ T : ByteArray, Hid (∀ w, Calls Tryd.prog 19 #[.int .i64 a] w fun e w' => e = .returned (.string T) ∧ Below w.heap.size w w') ∧ Hid (∀ w, Tab w → Calls Tryd.prog 20 #[.int .i64 a] w fun e w' => e = .returned (.string T) ∧ Below w.heap.size w w') := ⟨_, fun w => s_AmountText a ba w, fun w h => i_AmountText a ba w h⟩
  clear hT ba
  go_enter Tryd.func5, Tryd.ntmps5
  go_wp2_with fail
  refine (HS.out _).mono ?_
  rintro e w1 ⟨rfl, hb1⟩
  go_wp2_with fail
  refine (HI.out _ (HT.out.below hb1)).mono ?_
  rintro e w2 ⟨rfl, hb2⟩
  go_wp2_with fail
  go_ret
  exact ⟨rfl, hb1.trans (hb2.mono hb1.size)⟩
end Go.Proofs.YtpbflceekikbiaaDoor
