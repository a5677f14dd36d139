/-
  Decimal and IntText (both sides) and their laws. No conditions beyond the table's place.
-/
import Derived.Test.YtpbflceekikbiaaDoorStd
import Derived.Test.YtpbflceekikbiaaDoorWDecS
import Derived.Test.YtpbflceekikbiaaDoorShelf
namespace Go.Proofs.YtpbflceekikbiaaDoor
open Go.ChangeShapes Go.WideShapes Go.ChangeAt Go.RowKit

theorem below_grow (w : World) (k : Nat) (os : Array Obj) : Below w.heap.size w (Go.Sort.grow (w.drewN k) os) :=
  ⟨rfl, rfl, rfl, by show w.heap.size ≤ (w.heap ++ os).size; simp, fun i hi => by show (w.heap ++ os)[i]? = w.heap[i]?; exact Array.getElem?_append_left hi⟩
theorem i_Decimal (n : Int) (h0 : -9223372036854775808 ≤ n) (h1 : n ≤ 9223372036854775807) (w : World) (hT : Tab w) : Calls Tryd.prog 16 #[.int .i64 n] w fun e w' => e = .returned (.string ⟨(Lib.itoa n).toArray⟩) ∧ Below w.heap.size w w' := by
  have HT := Lib.hid hT
  clear hT
  obtain ⟨S, hS⟩ : ∃ S : ByteArray, (⟨(Lib.itoa n).toArray⟩ : ByteArray) = S := ⟨_, rfl⟩
  have HC : Hid (∀ w, Tab w → Calls Tryd.prog 45 #[.int .i64 n] w fun e w' => e = .returned (.string S) ∧ Below w.heap.size w w') := fun w h => by
    rw [← hS]
    exact (Tryd.strconv_Itoa n h0 h1 w h).mono fun e w' ⟨h2, k, os, h3⟩ => ⟨h2, by rw [h3]; exact below_grow w k os⟩
  rw [hS]
  clear hS
  go_enter Tryd.func16, Tryd.ntmps16
  go_wp2_with fail
  refine (HC.out _ HT.out).mono ?_
  rintro e w1 ⟨rfl, hb1⟩
  go_wp2_with fail
  go_ret
  exact ⟨rfl, hb1⟩
theorem i_IntText (n : Int) (h0 : -9223372036854775808 ≤ n) (h1 : n ≤ 9223372036854775807) (w : World) (hT : Tab w) : Calls Tryd.prog 18 #[.int .i64 n] w fun e w' => e = .returned (.string ⟨(Lib.itoa n).toArray⟩) ∧ Below w.heap.size w w' := by
  have HC := Lib.hid (i_Decimal n h0 h1 w hT)
  generalize (⟨(Lib.itoa n).toArray⟩ : ByteArray) = S at HC ⊢
  clear hT
  go_enter Tryd.func18, Tryd.ntmps18
  go_wp2_with fail
  refine (HC.out).mono ?_
  rintro e w1 ⟨rfl, hb1⟩
  go_wp2_with fail
  go_ret
  exact ⟨rfl, hb1⟩
theorem s_IntText (n : Int) (h0 : -9223372036854775808 ≤ n) (h1 : n ≤ 9223372036854775807) (w : World) : Calls Tryd.prog 17 #[.int .i64 n] w fun e w' => e = .returned (.string ⟨(Lib.itoa n).toArray⟩) ∧ Below w.heap.size w w' := by
  have HC := Lib.hid (s_Decimal n h0 h1 w)
  generalize (⟨(Lib.itoa n).toArray⟩ : ByteArray) = S at HC ⊢
  go_enter Tryd.func17, Tryd.ntmps17
  go_wp2_with fail
  refine (HC.out).mono ?_
  rintro e w1 ⟨rfl, hb1⟩
  go_wp2_with fail
  go_ret
  exact ⟨rfl, hb1⟩

theorem walk_FnExactDecimal (a : Int) (w : World) (ha : (Lit.int .i64 a).wf = true) (hT : Tab w) : Calls Tryd.prog 3 #[.int .i64 a] w fun e w' => e = .returned (.bool true) ∧ Below w.heap.size w w' := by
  have ba := bounds_i64 ha
  obtain ⟨T, HS, HI⟩ : ∃ T, Hid (∀ w, Calls Tryd.prog 15 #[.int .i64 a] w fun e w' => e = .returned (.string T) ∧ Below w.heap.size w w') ∧ Hid (∀ w, Tab w → Calls Tryd.prog 16 #[.int .i64 a] w fun e w' => e = .returned (.string T) ∧ Below w.heap.size w w') := ⟨_, fun w => s_Decimal a ba.1 ba.2 w, fun w h => i_Decimal a ba.1 ba.2 w h⟩
  have HT := Lib.hid hT
  clear ba hT
  go_enter Tryd.func3, Tryd.ntmps3
  go_wp2_with fail
  refine (HS.out _).mono ?_
  rintro e w1 ⟨rfl, hb1⟩
  go_wp2_with fail
  refine (HI.out _ (HT.out.below hb1)).mono ?_
  rintro e w2 ⟨rfl, hb2⟩
  go_wp2_with fail
  go_ret
  exact ⟨rfl, hb1.trans (hb2.mono hb1.size)⟩
theorem walk_FnExactIntText (a : Int) (w : World) (ha : (Lit.int .i64 a).wf = true) (hT : Tab w) : Calls Tryd.prog 4 #[.int .i64 a] w fun e w' => e = .returned (.bool true) ∧ Below w.heap.size w w' := by
  have ba := bounds_i64 ha
  obtain ⟨T, HS, HI⟩ : ∃ T, Hid (∀ w, Calls Tryd.prog 17 #[.int .i64 a] w fun e w' => e = .returned (.string T) ∧ Below w.heap.size w w') ∧ Hid (∀ w, Tab w → Calls Tryd.prog 18 #[.int .i64 a] w fun e w' => e = .returned (.string T) ∧ Below w.heap.size w w') := ⟨_, fun w => s_IntText a ba.1 ba.2 w, fun w h => i_IntText a ba.1 ba.2 w h⟩
  have HT := Lib.hid hT
  clear ba hT
  go_enter Tryd.func4, Tryd.ntmps4
  go_wp2_with fail
  refine (HS.out _).mono ?_
  rintro e w1 ⟨rfl, hb1⟩
  go_wp2_with fail
  refine (HI.out _ (HT.out.below hb1)).mono ?_
  rintro e w2 ⟨rfl, hb2⟩
  go_wp2_with fail
  go_ret
  exact ⟨rfl, hb1.trans (hb2.mono hb1.size)⟩
end Go.Proofs.YtpbflceekikbiaaDoor
