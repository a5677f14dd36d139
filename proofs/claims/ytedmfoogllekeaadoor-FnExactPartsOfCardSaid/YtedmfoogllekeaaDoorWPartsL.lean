/-
  The law on PartsOf. No conditions beyond the listed table's place.
-/
import Derived.Test.YtedmfoogllekeaaDoorWParts
import Derived.Test.YtedmfoogllekeaaDoorStdP
namespace Go.Proofs.YtedmfoogllekeaaDoor
open Go.ChangeShapes Go.WideShapes Go.ChangeAt Go.RowKit Go.Proofs.YtedmfoogllekeaaDoor.Fld

theorem parts_len (s : ByteArray) : (partsR s).1.length ≤ 12 := by
  unfold partsR
  split
  · rename_i h
    exact h.2
  · decide
theorem bdP {B : Nat} {a w : World} (h : Below B a w) (n : Nat) : Below B a (w.drewN n) := ⟨h.os, h.tape, h.output, h.size, h.block⟩
theorem own_d {w : World} {B : Nat} {v : Value} {l : List ByteArray} (h : OwnS w B v l) (n : Nat) : OwnS (w.drewN n) B v l := h
theorem keep_two {w w' : World} {v u : Value} {l m : List ByteArray} {A C : Nat} (h1 : OwnS w A v l) (hu : OwnS w C u m) (hv : ∀ k, v.ownBlock = some k → k < C) (hg : w.grownBy w' u.ownBlock) : OwnS w' A v l := by
  refine World.ownsRow.kept h1 hg ?_
  cases hk : v.ownBlock with
  | none => exact .inl rfl
  | some k =>
    right
    intro he
    have h3 := (World.ownsRow.lt hu k he.symm).1
    have h4 := hv k hk
    omega
theorem below_mark {w w' : World} {u : Value} {m : List ByteArray} {C B : Nat} (hu : OwnS w C u m) (hB : B ≤ C) (hw : B ≤ w.heap.size) (hg : w.grownBy w' u.ownBlock) : Below B w w' :=
  ⟨hg.os, hg.tape, hg.output, hg.size, fun k hk => hg.block k (by omega) (by
    intro he
    have h3 := (World.ownsRow.lt hu k he.symm).1
    omega)⟩
set_option maxHeartbeats 4000000 in
theorem walk_FnExactPartsOf (a : ByteArray) (w : World) (_ha : a.size ≤ maxLen) (hT : TabS w) : Calls Tryd.prog 4 #[.string a] w fun e w' => e = .returned (.bool true) ∧ Below w.heap.size w w' := by
  have HT := Lib.hid hT
  clear hT
  by_cases hl : (1048576 : Int) < (a.size : Int)
  · go_enter Tryd.func4, Tryd.ntmps4
    go_wp2
    go_ret
    exact ⟨rfl, Below.refl _ _⟩
  · obtain ⟨L, b, n, hn, HS, HI⟩ : ∃ (L : List ByteArray) (b : Bool) (n : Nat), (L.length = n ∧ n ≤ 12) ∧ Hid (∀ w, Calls Tryd.prog 7 #[.string a] w (PartP (L, b) w)) ∧ Hid (∀ w, TabS w → Calls Tryd.prog 8 #[.string a] w (PartP (L, b) w)) :=
      ⟨_, _, _, ⟨rfl, parts_len a⟩, fun w => s_PartsOf a (by omega) w, fun w h => i_PartsOf a (by omega) w h⟩
    obtain ⟨hn, hn12⟩ := hn
    have HN := Lib.hid hn
    clear hn
    go_enter Tryd.func4, Tryd.ntmps4
    go_wp2_with fail
    refine (HS.out _).mono ?_
    rintro e w1 ⟨v1, rfl, ho1, hb1⟩
    have O1 := Lib.hid ho1
    have hv1 : Hid (∀ k, v1.ownBlock = some k → k < w1.heap.size) := fun k hk => (World.ownsRow.lt ho1 k hk).2
    clear ho1
    go_wp2_with fail
    refine (HI.out _ (HT.out.below hb1)).mono ?_
    rintro e w2 ⟨v2, rfl, ho2, hb2⟩
    have O2 := Lib.hid ho2
    have P2 : Hid (OwnS w2 w.heap.size v1 L) := O1.out.below hb2 (Nat.le_refl _)
    have hs1 := hb1.size
    have hs2 := hb2.size
    have G2 : Hid (Below w.heap.size w w2) := hb1.trans (hb2.mono hs1)
    clear ho2 hb1 hb2
    go_wp2_with fail
    refine (l_eqStringS w2 _ _ _ _ L (by rw [HN.out]; omega) O2.out P2.out).mono ?_
    rintro e w3 ⟨rfl, n1, rfl⟩
    go_wp2_with fail
    refine (l_markStringS (w2.drewN n1) w1.heap.size v2 L (by rw [HN.out]; omega) (own_d O2.out n1)).mono ?_
    rintro e w4 ⟨rfl, ho4, hg4⟩
    rw [HN.out] at ho4 ⊢
    have O4 := Lib.hid ho4
    have P4 : Hid (OwnS w4 w.heap.size v1 L) := keep_two (own_d P2.out n1) (own_d O2.out n1) hv1.out hg4
    have hs4 : w2.heap.size ≤ w4.heap.size := hg4.size
    have G4 : Hid (Below w.heap.size w w4) := (bdP G2.out n1).trans (below_mark (own_d O2.out n1) hs1 (by show w.heap.size ≤ w2.heap.size; omega) hg4)
    clear ho4 hg4
    go_wp2_with fail
    refine (l_heldStringS w4 _ _ n (by omega) O4.out).mono ?_
    rintro e w5 ⟨rfl, hb5⟩
    have hs5 := hb5.size
    have O5 : Hid (OwnS w5 w1.heap.size v2 (marksL n)) := O4.out.below hb5 (Nat.le_refl _)
    have P5 : Hid (OwnS w5 w.heap.size v1 L) := P4.out.below hb5 (Nat.le_refl _)
    have G5 : Hid (Below w.heap.size w w5) := G4.out.trans (hb5.mono (by omega))
    clear hb5
    go_wp2_with fail
    refine (HI.out _ (HT.out.below G5.out)).mono ?_
    rintro e w6 ⟨v3, rfl, ho6, hb6⟩
    have hs6 := hb6.size
    have Q6 := Lib.hid ho6
    have O6 : Hid (OwnS w6 w1.heap.size v2 (marksL n)) := O5.out.below hb6 (Nat.le_refl _)
    have P6 : Hid (OwnS w6 w.heap.size v1 L) := P5.out.below hb6 (Nat.le_refl _)
    have G6 : Hid (Below w.heap.size w w6) := G5.out.trans (hb6.mono (by omega))
    clear ho6 hb6
    go_wp2_with fail
    refine (l_eqStringS w6 _ _ _ _ L (by rw [HN.out]; omega) Q6.out P6.out).mono ?_
    rintro e w7 ⟨rfl, n2, rfl⟩
    go_wp2_with fail
    refine (l_heldStringS (w6.drewN n2) _ _ n (by omega) (own_d O6.out n2)).mono ?_
    rintro e w8 ⟨rfl, hb8⟩
    go_wp2_with fail
    go_ret
    exact ⟨rfl, (bdP G6.out n2).trans (hb8.mono (by show w.heap.size ≤ w6.heap.size; omega))⟩
end Go.Proofs.YtedmfoogllekeaaDoor
