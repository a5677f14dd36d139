/-
  Suffixes, UnitOf (both sides); the law on UnitOf. No conditions.
-/
import Derived.Test.YtpbflceekikbiaaDoorWC
import Derived.Outline
import Derived.Lib.Hide
import Derived.WalkLawsBesides
import Derived.Deep.QuietTactic
import Derived.BigQuiet
import Derived.WalkSmall
namespace Go.Proofs.YtpbflceekikbiaaDoor
open Go.ChangeShapes Go.WideShapes Go.ChangeAt Go.RowKit

def sufL : List ByteArray := [⟨#[]⟩, ⟨#[109]⟩, ⟨#[107]⟩, ⟨#[77]⟩, ⟨#[71]⟩, ⟨#[84]⟩, ⟨#[75, 105]⟩, ⟨#[77, 105]⟩, ⟨#[71, 105]⟩, ⟨#[84, 105]⟩]
def unitsL : List Int := [1000, 1, 1000000, 1000000000, 1000000000000, 1000000000000000, 1024000, 1048576000, 1073741824000, 1099511627776000]
/-- Block g holds the strings l, and nothing else. -/
def HasS (w : World) (g : Nat) (l : List ByteArray) : Prop := w.heap[g]? = some (.cells (l.map Value.string).toArray 9 (0, 0))
theorem HasS.cell {w : World} {g : Nat} {l : List ByteArray} (h : HasS w g l) (j : Nat) (hj : j < l.length) : w.cell? ⟨g, j, none⟩ = some (.string (l.getD j ⟨#[]⟩)) := by
  rw [cell_of_row _ g j _ _ (0, 0) h]
  simp [List.getElem?_eq_getElem hj, List.getD]
theorem HasS.lt {w : World} {g : Nat} {l : List ByteArray} (h : HasS w g l) : g < w.heap.size := (Array.getElem?_eq_some_iff.1 h).1
theorem HasS.below {w w' : World} {g B : Nat} {l : List ByteArray} (h : HasS w g l) (hb : Below B w w') (hg : g < B) : HasS w' g l := (hb.block g hg).trans h

def SufP (w : World) (e : Ending) (w' : World) : Prop := e = .returned (.slice (some ⟨w.heap.size, 0, none⟩) 10 10) ∧ HasS w' w.heap.size sufL ∧ Below w.heap.size w w'
theorem i_Suffixes (w : World) : Calls Tryd.prog 42 #[] w (SufP w) := by
  go_enter Tryd.func42, Tryd.ntmps42
  go_wp2_with fail
  go_ret
  exact ⟨rfl, heap_alloc_new w _, by go_grown⟩
theorem s_Suffixes (w : World) : Calls Tryd.prog 65 #[] w (SufP w) := by
  go_enter Tryd.func65, Tryd.ntmps65
  go_wp2_with fail
  go_ret
  exact ⟨rfl, heap_alloc_new w _, by go_grown⟩

/-- Where s stands among the strings l (l's length: nowhere). -/
def idxS (l : List ByteArray) (s : ByteArray) : Nat := l.findIdx (fun x => decide (x = s))
def unitR (s : ByteArray) : Int × Bool := if idxS sufL s < 10 then (unitsL.getD (idxS sufL s) 0, true) else (0, false)
theorem idx_at {l : List ByteArray} {s : ByteArray} {k : Nat} (hk : k < l.length) (h : l.getD k ⟨#[]⟩ = s) (hb : ∀ j, j < k → l.getD j ⟨#[]⟩ ≠ s) : idxS l s = k := by
  unfold idxS
  rw [List.findIdx_eq hk]
  have e : ∀ j (hj : j < l.length), l.getD j ⟨#[]⟩ = l[j] := fun j hj => by simp [List.getD, List.getElem?_eq_getElem hj]
  refine ⟨by rw [← e k hk]; exact decide_eq_true h, fun j hj => ?_⟩
  rw [← e j (by omega)]
  exact decide_eq_false (hb j hj)
theorem idx_end {l : List ByteArray} {s : ByteArray} (hb : ∀ j, j < l.length → l.getD j ⟨#[]⟩ ≠ s) : idxS l s = l.length := by
  unfold idxS
  rw [List.findIdx_eq_length]
  intro x hx
  obtain ⟨j, hj, rfl⟩ := List.mem_iff_getElem.1 hx
  have e : l.getD j ⟨#[]⟩ = l[j] := by simp [List.getD, List.getElem?_eq_getElem hj]
  rw [← e]
  exact decide_eq_false (hb j hj)
theorem toList_ne {a b : ByteArray} (h : a ≠ b) : (a.toList == b.toList) = false := by
  rw [beq_eq_false_iff_ne, ByteArray.toList_eq, ByteArray.toList_eq]
  intro he
  exact h (ByteArray.ext (Array.toList_inj.1 he))

theorem ret_ix {a b : Int} (h : a = b) : Ending.returned (.int .i64 a) = .returned (.int .i64 b) := by rw [h]
theorem index_S (w : World) (g : Nat) (s : ByteArray) (h : HasS w g sufL) : Calls Tryd.prog 66 #[.slice (some ⟨g, 0, none⟩) 10 10, .string s] w fun e w' => e = .returned (.int .i64 (if idxS sufL s < 10 then (idxS sufL s : Int) else -1)) ∧ w = w' := by
  have H := Lib.hid h
  obtain ⟨x, hx⟩ : ∃ x, idxS sufL s = x := ⟨_, rfl⟩
  have HX := Lib.hid hx
  rw [hx]
  obtain ⟨R, hR⟩ : ∃ R : Int, (if x < 10 then (x : Int) else -1) = R := ⟨_, rfl⟩
  rw [hR]
  have HR := Lib.hid hR
  clear h hx hR
  go_enter Tryd.func66, Tryd.ntmps66
  go_wp2_with fail
  go_loop [8] (fun i => ∃ k : Nat, i = .int .i64 k ∧ k ≤ 10 ∧ Hid (∀ j, j < k → sufL.getD j ⟨#[]⟩ ≠ s)) (fun i => 10 - (intOf i).toNat)
  case atStart => exact ⟨0, rfl, by omega, fun j hj => absurd hj (by omega)⟩
  case round =>
    obtain ⟨k, rfl, hk, HB⟩ := hrel
    by_cases hlt : k < 10
    · have hc := H.out.cell k hlt
      obtain ⟨u, hu⟩ : ∃ u, sufL.getD k ⟨#[]⟩ = u := ⟨_, rfl⟩
      rw [hu] at hc
      have hlt' : (k : Int) < 10 := by omega
      by_cases he : u = s
      · have HE : Hid (x = k) := by rw [← HX.out]; exact idx_at hlt (hu.trans he) HB.out
        subst he
        clear hu
        go_wp2_with fail
        go_ret
        exact ⟨ret_ix (by rw [← HR.out, HE.out, if_pos hlt]), rfl⟩
      · have hne := toList_ne he
        have hne2 := toList_ne (Ne.symm he)
        have HB2 : Hid (∀ j, j < k + 1 → sufL.getD j ⟨#[]⟩ ≠ s) := fun j hj => by
          rcases Nat.lt_succ_iff_lt_or_eq.1 hj with h | rfl
          · exact HB.out j h
          · rw [hu]; exact he
        clear hu he
        go_wp2_with fail
        go_round
        case rel => exact ⟨k + 1, by go_num, by omega, HB2⟩
        case measure => simp [intOf]; omega
    · obtain rfl : k = 10 := by omega
      have HE : Hid (x = 10) := by rw [← HX.out]; exact idx_end (l := sufL) HB.out
      go_wp2_with fail
      go_ret
      exact ⟨ret_ix (by rw [← HR.out, HE.out]; rfl), rfl⟩

theorem pk2 : powR 1000 2 = (1000000, true) := by decide +kernel
theorem pk3 : powR 1000 3 = (1000000000, true) := by decide +kernel
theorem pk4 : powR 1000 4 = (1000000000000, true) := by decide +kernel
theorem pk5 : powR 1000 5 = (1000000000000000, true) := by decide +kernel
theorem pb1 : powR 1024 1 = (1024, true) := by decide +kernel
theorem pb2 : powR 1024 2 = (1048576, true) := by decide +kernel
theorem pb3 : powR 1024 3 = (1073741824, true) := by decide +kernel
theorem pb4 : powR 1024 4 = (1099511627776, true) := by decide +kernel
theorem i_UnitOf (s : ByteArray) (w : World) : Calls Tryd.prog 55 #[.string s] w fun e w' => e = .returned (.tuple #[.int .i64 (unitR s).1, .bool (unitR s).2]) ∧ Below w.heap.size w w' := by
  obtain ⟨x, hx⟩ : ∃ x, idxS sufL s = x := ⟨_, rfl⟩
  have hx10 : x ≤ 10 := by rw [← hx]; exact List.findIdx_le_length
  have HI : Hid (∀ w g, HasS w g sufL → Calls Tryd.prog 66 #[.slice (some ⟨g, 0, none⟩) 10 10, .string s] w fun e w' => e = .returned (.int .i64 (if x < 10 then (x : Int) else -1)) ∧ w = w') := fun w g h => by rw [← hx]; exact index_S w g s h
  have HU : Hid (unitR s = if x < 10 then (unitsL.getD x 0, true) else (0, false)) := by rw [← hx]; rfl
  clear hx
  have hx11 : x = 0 ∨ x = 1 ∨ x = 2 ∨ x = 3 ∨ x = 4 ∨ x = 5 ∨ x = 6 ∨ x = 7 ∨ x = 8 ∨ x = 9 ∨ x = 10 := by omega
  clear hx10
  rcases hx11 with rfl | rfl | rfl | rfl | rfl | rfl | rfl | rfl | rfl | rfl | rfl
  all_goals
    go_enter Tryd.func55, Tryd.ntmps55
    go_wp2_with fail
    refine (i_Suffixes w).mono ?_
    rintro e w1 ⟨rfl, hS, hb1⟩
    have H1 := Lib.hid hS
    clear hS
    go_wp2_with fail
    refine (HI.out _ _ H1.out).mono ?_
    rintro e w' ⟨rfl, rfl⟩
    go_wp2_with (go_at_call 27; refine (i_PowInt _ _ (by omega) _).mono ?_; rintro e w' ⟨rfl, rfl⟩; first | rw [pk2] | rw [pk3] | rw [pk4] | rw [pk5] | rw [pb1] | rw [pb2] | rw [pb3] | rw [pb4])
    go_ret2
    exact ⟨by rw [HU.out]; rfl, hb1⟩

theorem s_UnitOf (s : ByteArray) (w : World) : Calls Tryd.prog 54 #[.string s] w fun e w' => e = .returned (.tuple #[.int .i64 (unitR s).1, .bool (unitR s).2]) ∧ Below w.heap.size w w' := by
  obtain ⟨x, hx⟩ : ∃ x, idxS sufL s = x := ⟨_, rfl⟩
  have HU : Hid (unitR s = if x < 10 then (unitsL.getD x 0, true) else (0, false)) := by rw [← hx]; rfl
  have HX := Lib.hid hx
  clear hx
  go_enter Tryd.func54, Tryd.ntmps54
  go_wp2_with fail
  refine (s_Suffixes w).mono ?_
  rintro e w1 ⟨rfl, hS, hb1⟩
  have H1 := Lib.hid hS
  clear hS
  go_wp2_with fail
  obtain ⟨W, hW⟩ : ∃ W, w1.alloc (.cells #[Value.int .i64 1000, Value.int .i64 1, Value.int .i64 1000000, Value.int .i64 1000000000, Value.int .i64 1000000000000, Value.int .i64 1000000000000000, Value.int .i64 1024000, Value.int .i64 1048576000, Value.int .i64 1073741824000, Value.int .i64 1099511627776000] 3) = W := ⟨_, rfl⟩
  have hB : Below w1.heap.size w1 W := by rw [← hW]; go_grown
  have H2 : Hid (HasS W w.heap.size sufL) := H1.out.below hB H1.out.lt
  have H3 : Hid (∀ j, j < 10 → W.cell? ⟨w1.heap.size, j, none⟩ = some (.int .i64 (unitsL.getD j 0))) := fun j hj => by
    rw [← hW, cell_of_row _ w1.heap.size j _ _ (0, 0) (heap_alloc_new w1 _)]
    have : unitsL.length = 10 := rfl
    show (unitsL.map (Value.int .i64)).toArray[j]? = _
    simp [List.getD, List.getElem?_eq_getElem (show j < unitsL.length by omega)]
  rw [hW]
  clear hW
  have hs1 : w.heap.size < w1.heap.size := H1.out.lt
  go_loop [6] (fun i => ∃ k : Nat, i = .int .i64 k ∧ k ≤ 10 ∧ Hid (∀ j, j < k → sufL.getD j ⟨#[]⟩ ≠ s)) (fun i => 10 - (intOf i).toNat)
  case atStart => exact ⟨0, rfl, by omega, fun j hj => absurd hj (by omega)⟩
  case round =>
    obtain ⟨k, rfl, hk, HB⟩ := hrel
    by_cases hlt : k < 10
    · have hc := H2.out.cell k hlt
      have hc2 := H3.out k hlt
      obtain ⟨u, hu⟩ : ∃ u, sufL.getD k ⟨#[]⟩ = u := ⟨_, rfl⟩
      obtain ⟨n, hn⟩ : ∃ n, unitsL.getD k 0 = n := ⟨_, rfl⟩
      rw [hu] at hc
      rw [hn] at hc2
      have hlt' : (k : Int) < 10 := by omega
      by_cases he : u = s
      · have HE : Hid (x = k) := by rw [← HX.out]; exact idx_at hlt (hu.trans he) HB.out
        have HN := Lib.hid hn
        subst he
        clear hu hn
        go_wp2_with fail
        go_ret2
        exact ⟨ret_pair (by rw [HU.out, HE.out, if_pos hlt, HN.out]), hb1.trans (hB.mono (by omega))⟩
      · have hne := toList_ne he
        have hne2 := toList_ne (Ne.symm he)
        have HB2 : Hid (∀ j, j < k + 1 → sufL.getD j ⟨#[]⟩ ≠ s) := fun j hj => by
          rcases Nat.lt_succ_iff_lt_or_eq.1 hj with h | rfl
          · exact HB.out j h
          · rw [hu]; exact he
        clear hu he hn
        go_wp2_with fail
        go_round
        case rel => exact ⟨k + 1, by go_num, by omega, HB2⟩
        case measure => simp [intOf]; omega
    · obtain rfl : k = 10 := by omega
      have HE : Hid (x = 10) := by rw [← HX.out]; exact idx_end (l := sufL) HB.out
      go_wp2_with fail
      go_ret2
      exact ⟨ret_pair (by rw [HU.out, HE.out]; rfl), hb1.trans (hB.mono (by omega))⟩

end Go.Proofs.YtpbflceekikbiaaDoor
