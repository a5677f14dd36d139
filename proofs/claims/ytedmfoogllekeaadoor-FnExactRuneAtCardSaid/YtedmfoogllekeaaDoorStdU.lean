/-
  What the row of RuneAt lists: two tables of the runes' decoder; a world that lays them. No conditions.
-/
import Derived.Test.YtedmfoogllekeaaDoorKit
import Derived.Test.YtedmfoogllekeaaDoorCards
import Derived.Test.YtedmfoogllekeaaDoorTie
import Derived.Test.YtedmfoogllekeaaDoorShelf
import Derived.Deep.DeepWitnessRowRef
import Derived.Lib.LaidTab
import Derived.Lib.LaidIn
import Derived.Lib.LaidU8
import Derived.PinnedBridge
import Derived.LaidLaws
namespace Go.Proofs.YtedmfoogllekeaaDoor
open Go.ChangeShapes Go.WideShapes Go.ChangeAt Go.RowKit

theorem extraU : U8Extra Tryd.prog Tryd.lays197_ren := ⟨by kernel_rfl, by kernel_rfl, by kernel_rfl, by kernel_rfl, by kernel_rfl, by kernel_rfl, by kernel_rfl⟩
theorem acceptEq : (Rows.laid_unicode_utf8_acceptRanges : DataW Unit) = Lib.acceptData := by kernel_rfl
theorem firstEq : Rows.laid_unicode_utf8_first = Lib.firstData := Pinned.utf8First_eq
def laidU : List (String × DataW Unit) := [("unicode/utf8.acceptRanges", Rows.laid_unicode_utf8_acceptRanges), ("unicode/utf8.first", Rows.laid_unicode_utf8_first)]
theorem stdU {W : World} (h : laidMetH Tryd.prog laidU W) : Lib.Utf8Tabs 1 2 W := by
  have h' : laidMet Tryd.prog laidU W := h
  refine utf8Tabs_of_reads (ρ := Tryd.lays197_ren) { Tryd.lays197 with } extraU ?_ ?_
  · have := Lib.laidMet.reads h' (n := "unicode/utf8.first") (d := Rows.laid_unicode_utf8_first) (by unfold laidU; exact .tail _ (.head _))
    rw [firstEq] at this
    exact this
  · have := Lib.laidMet.reads h' (n := "unicode/utf8.acceptRanges") (d := Rows.laid_unicode_utf8_acceptRanges) (by unfold laidU; exact .head _)
    rw [acceptEq] at this
    exact this
def zA : List Int := [128, 191, 160, 191, 128, 159, 144, 191, 128, 143, 0, 0, 0, 0, 0, 0, 0, 0, 0, 0, 0, 0, 0, 0, 0, 0, 0, 0, 0, 0, 0, 0]
noncomputable def laidWorld (os : Os) : World :=
  let w0 := World.holding Tryd.prog os ⟨#[], #[], []⟩
  let put (h : Array Obj) (g : Nat) (cs : Array Value) : Array Obj := h.modify g fun
    | .cells _ t frozen => .cells cs t frozen
    | o => o
  { w0 with heap := put (put w0.heap 1 (Go.Pinned.utf8FirstZ.map fun (z : Nat) => Value.int .u8 (z : Int)).toArray) 2 (zA.map (Value.int .u8)).toArray }
set_option maxRecDepth 1000000 in
theorem laid_metU (os : Os) (args : Array Value) : laidMet Tryd.prog laidU ((laidWorld os).forCall (fun _ _ => 0) ⟨#[], args, []⟩).memory :=
  laidMet_of_run' 10 (by kernel_rfl) (by kernel_rfl)
end Go.Proofs.YtedmfoogllekeaaDoor
