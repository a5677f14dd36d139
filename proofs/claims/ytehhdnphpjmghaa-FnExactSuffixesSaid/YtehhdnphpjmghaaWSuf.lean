/-
  The law on Suffixes. No conditions.
-/
import Derived.Test.YtehhdnphpjmghaaWUnit
import Derived.Test.YtehhdnphpjmghaaStrs
namespace Go.Proofs.Ytehhdnphpjmghaa
open Go.ChangeShapes Go.WideShapes Go.ChangeAt Go.RowKit

theorem own_suf {w : World} {g B : Nat} (h : HasS w g sufL) (hB : B ≤ g) : OwnS w B (.slice (some ⟨g, 0, none⟩) 10 10) sufL :=
  ⟨rfl, .inr ⟨g, 10, _, rfl, hB, h, by decide, by decide, rfl, rfl⟩⟩
theorem own_below {w w' : World} {B C : Nat} {v : Value} {l : List ByteArray} (h : OwnS w B v l) (hb : Below C w w') (hv : ∀ k, v.ownBlock = some k → k < C) : OwnS w' B v l := by
  refine ⟨h.1, ?_⟩
  rcases h.2 with hn | ⟨g, cap, cur, rfl, hB, hg, rest⟩
  · exact .inl hn
  · exact .inr ⟨g, cap, cur, rfl, hB, by rw [hb.block g (hv g rfl)]; exact hg, rest⟩

theorem below_grown4 {w w' : World} {c B : Nat} (h : w.grownBy w' (some c)) (hc : B ≤ c) (hB : B ≤ w.heap.size) : Below B w w' := ⟨h.os, h.tape, h.output, h.size, fun k hk => h.block k (by omega) (by simp; omega)⟩
theorem walk_FnExactSuffixes (w : World) : Calls Try.prog 12 #[] w fun e w' => e = .returned (.bool true) ∧ Below w.heap.size w w' := by
  go_enter Try.func12, Try.ntmps12
  go_wp2_with fail
  refine (s_Suffixes w).mono ?_
  rintro e w1 ⟨rfl, hS, hb1⟩
  have H1 := Lib.hid hS
  have hl1 := hS.lt
  clear hS
  go_wp2_with fail
  refine (i_Suffixes w1).mono ?_
  rintro e w2 ⟨rfl, hS, hb2⟩
  have H2 := Lib.hid hS
  have hl2 := hS.lt
  have O1 : Hid (OwnS w2 w.heap.size (.slice (some ⟨w.heap.size, 0, none⟩) 10 10) sufL) := own_suf (H1.out.below hb2 hl1) (Nat.le_refl _)
  have O2 : Hid (OwnS w2 w1.heap.size (.slice (some ⟨w1.heap.size, 0, none⟩) 10 10) sufL) := own_suf H2.out (Nat.le_refl _)
  clear hS
  go_wp2_with fail
  refine (l_eqStringS w2 _ _ _ _ sufL (by decide) O2.out O1.out).mono ?_
  rintro e w3 ⟨rfl, n1, rfl⟩
  go_wp2_with fail
  have O1d : Hid (OwnS (w2.drewN n1) w1.heap.size (.slice (some ⟨w1.heap.size, 0, none⟩) 10 10) sufL) := O2.out
  have O2d : Hid (OwnS (w2.drewN n1) w.heap.size (.slice (some ⟨w.heap.size, 0, none⟩) 10 10) sufL) := O1.out
  refine (l_markStringS (w2.drewN n1) _ _ sufL (by decide) O1d.out).mono ?_
  rintro e w4 ⟨rfl, ho4, hg4⟩
  rw [show ((sufL.length : Nat) : Int) + 1 = 11 from rfl]
  have O4 : Hid (OwnS w4 w1.heap.size (.slice (some ⟨w1.heap.size, 0, none⟩) 10 10) (marksL 10)) := ho4
  have hs4 : w2.heap.size ≤ w4.heap.size := hg4.size
  have P4 : Hid (OwnS w4 w.heap.size (.slice (some ⟨w.heap.size, 0, none⟩) 10 10) sufL) := World.ownsRow.kept O2d.out hg4 (.inr (by simp [Value.ownBlock]; omega))
  have hb4 : Below w.heap.size (w2.drewN n1) w4 := below_grown4 (c := w1.heap.size) hg4 (by omega) (by have := hb1.size; have := hb2.size; show w.heap.size ≤ w2.heap.size; omega)
  clear ho4
  go_wp2_with fail
  refine (l_heldStringS w4 _ _ 10 (by decide) O4.out).mono ?_
  rintro e w5 ⟨rfl, hb5⟩
  have hs5 := hb5.size
  have O5 : Hid (OwnS w5 w1.heap.size (.slice (some ⟨w1.heap.size, 0, none⟩) 10 10) (marksL 10)) := own_below O4.out hb5 (by intro k hk; simp [Value.ownBlock] at hk; omega)
  have P5 : Hid (OwnS w5 w.heap.size (.slice (some ⟨w.heap.size, 0, none⟩) 10 10) sufL) := own_below P4.out hb5 (by intro k hk; simp [Value.ownBlock] at hk; omega)
  go_wp2_with fail
  refine (i_Suffixes w5).mono ?_
  rintro e w6 ⟨rfl, hS, hb6⟩
  have hs6 := hb6.size
  have O6 : Hid (OwnS w6 w1.heap.size (.slice (some ⟨w1.heap.size, 0, none⟩) 10 10) (marksL 10)) := own_below O5.out hb6 (by intro k hk; simp [Value.ownBlock] at hk; omega)
  have P6 : Hid (OwnS w6 w.heap.size (.slice (some ⟨w.heap.size, 0, none⟩) 10 10) sufL) := own_below P5.out hb6 (by intro k hk; simp [Value.ownBlock] at hk; omega)
  have Q6 : Hid (OwnS w6 w5.heap.size (.slice (some ⟨w5.heap.size, 0, none⟩) 10 10) sufL) := own_suf hS (Nat.le_refl _)
  clear hS
  go_wp2_with fail
  refine (l_eqStringS w6 _ _ _ _ sufL (by decide) Q6.out P6.out).mono ?_
  rintro e w7 ⟨rfl, n2, rfl⟩
  go_wp2_with fail
  have O7 : Hid (OwnS (w6.drewN n2) w1.heap.size (.slice (some ⟨w1.heap.size, 0, none⟩) 10 10) (marksL 10)) := O6.out
  refine (l_heldStringS (w6.drewN n2) _ _ 10 (by decide) O7.out).mono ?_
  rintro e w8 ⟨rfl, hb8⟩
  have hs8 : w6.heap.size ≤ w8.heap.size := hb8.size
  go_wp2_with fail
  go_ret
  refine ⟨rfl, ?_⟩
  have h1 := hb1.size
  have h2 := hb2.size
  refine hb1.trans ((hb2.mono h1).trans ((below_drewN (Below.refl _ _) n1).trans (hb4.trans ((hb5.mono (by omega)).trans ((hb6.mono (by omega)).trans ((below_drewN (Below.refl _ _) n2).trans (hb8.mono (by show w.heap.size ≤ w6.heap.size; omega))))))))
end Go.Proofs.Ytehhdnphpjmghaa
