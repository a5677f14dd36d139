/-
  What the row of PartsOf lists: the table of the spaces, and White_Space; a world that lays them. No conditions.
-/
import Derived.Test.YtedmfoogllekeaaDoorKit
import Derived.Test.YtedmfoogllekeaaDoorCards
import Derived.Test.YtedmfoogllekeaaDoorTie
import Derived.Test.YtedmfoogllekeaaDoorShelf
import Derived.Deep.DeepWitnessRowRef
import Derived.Lib.LaidTab
import Derived.Lib.LaidIn
import Derived.Lib.LaidU8
import Derived.PinnedBridge
import Derived.LaidLaws
import Derived.WalkSmall
import Derived.Lib.SmallJoins
namespace Go.Proofs.YtedmfoogllekeaaDoor
open Go.ChangeShapes Go.WideShapes Go.ChangeAt Go.RowKit

theorem gSp : Tryd.prog.globalNamed "strings.asciiSpace" = some 0 := by kernel_rfl
theorem gSpType : (Tryd.prog.globals[0]?).map (·.type) = some 38 := by kernel_rfl
theorem cellsSp : Tryd.prog.cellsOf 38 = 256 := by kernel_rfl
theorem cellsU8 : Tryd.prog.cellsOf 5 = 1 := by kernel_rfl
theorem dataSp : (Rows.laid_strings_asciiSpace : DataW Unit) = Lib.tabData .u8 Lib.asciiSpaceTab := by kernel_rfl
def TabS (w : World) : Prop := Lib.TabIs Tryd.prog w "strings.asciiSpace" .u8 Lib.asciiSpaceTab
theorem TabS.below {w w' : World} (h : TabS w) (hb : Below w.heap.size w w') : TabS w' := by
  have hlt : 0 < w.heap.size := by
    have h2 := h
    unfold TabS Lib.TabIs World.var? at h2
    rw [gSp] at h2
    simp only [Option.bind_some] at h2
    rcases Nat.lt_or_ge 0 w.heap.size with h' | h'
    · exact h'
    · rw [Array.getElem?_eq_none h'] at h2; cases h2
  exact var?_below hb gSp hlt h
def laidP : List (String × DataW Unit) := [("unicode.White_Space", Rows.laid_unicode_White_Space), ("strings.asciiSpace", Rows.laid_strings_asciiSpace)]
theorem stdP {W : World} (h : laidMetH Tryd.prog laidP W) : TabS W := by
  have h' : laidMet Tryd.prog laidP W := h
  obtain ⟨g, t, cs, fuel, p, h1, h2, h3, h4⟩ := Lib.laidMet.reads h' (n := "strings.asciiSpace") (d := Rows.laid_strings_asciiSpace) (by unfold laidP; exact .tail _ (.head _))
  obtain rfl := Option.some.inj (gSp.symm.trans h1)
  obtain rfl := Option.some.inj (gSpType.symm.trans h2)
  rw [dataSp] at h4
  have := Lib.cells_of_tab Tryd.underlying38 Tryd.underlying5 cellsU8 cellsSp h4
  unfold TabS Lib.TabIs
  rw [h3, ← this]
def zR : List Int := [9, 13, 1, 32, 133, 101, 160, 5760, 5600, 8192, 8202, 1, 8232, 8233, 1, 8239, 8287, 48, 12288, 12288, 1]
noncomputable def laidWorld (os : Os) : World :=
  let N := (World.settled Tryd.prog os).heap.size
  let w0 := World.holding Tryd.prog os ⟨#[.cells #[.slice (some ⟨N + 1, 0, none⟩) 7 7, .slice none 0 0, .int .i64 2] 54, .cells (zR.map (Value.int .u16)).toArray 57], #[], []⟩
  let put (h : Array Obj) (g : Nat) (cs : Array Value) : Array Obj := h.modify g fun
    | .cells _ t frozen => .cells cs t frozen
    | o => o
  { w0 with heap := put (put w0.heap 3 #[.pointer (some ⟨N, 0, none⟩)]) 0 (Lib.asciiSpaceTab.map (Value.int .u8)).toArray }
set_option maxRecDepth 1000000 in
theorem laid_metP (os : Os) (args : Array Value) : laidMet Tryd.prog laidP ((laidWorld os).forCall (fun _ _ => 0) ⟨#[], args, []⟩).memory :=
  laidMet_of_run' 10 (by kernel_rfl) (by kernel_rfl)
end Go.Proofs.YtedmfoogllekeaaDoor
