/-
  What the rows of this seat list of package-level variables: a table of powers and two errors; kept by whatever only makes memory; a world that lays them. No conditions.
-/
import Derived.Test.YtpbflceekikbiaaDoorKit
import Derived.Test.YtpbflceekikbiaaDoorCards
import Derived.Test.YtpbflceekikbiaaDoorTie
import Derived.Deep.DeepWitnessRowRef
import Derived.Lib.LaidTab
import Derived.Lib.LaidIn
import Derived.Lib.LaidU8
import Derived.Lib.ItoaNum
import Derived.LaidLaws
import Derived.WalkSmall
namespace Go.Proofs.YtpbflceekikbiaaDoor
open Go.ChangeShapes Go.WideShapes Go.ChangeAt Go.RowKit

theorem gTab : Tryd.prog.globalNamed "internal/strconv.uint64pow10" = some 3 := by kernel_rfl
theorem gSyn : Tryd.prog.globalNamed "strconv.ErrSyntax" = some 0 := by kernel_rfl
theorem gRng : Tryd.prog.globalNamed "strconv.ErrRange" = some 1 := by kernel_rfl
theorem gTabType : (Tryd.prog.globals[3]?).map (·.type) = some 90 := by kernel_rfl
theorem gSynType : (Tryd.prog.globals[0]?).map (·.type) = some 50 := by kernel_rfl
theorem gRngType : (Tryd.prog.globals[1]?).map (·.type) = some 50 := by kernel_rfl
theorem cellsTab : Tryd.prog.cellsOf 90 = 20 := by kernel_rfl
theorem cellsU64 : Tryd.prog.cellsOf 77 = 1 := by kernel_rfl
theorem dataTab : (Rows.laid_internal_strconv_uint64pow10 : DataW Unit) = Lib.tabData .u64 Lib.pow10Tab := by kernel_rfl

/-- The table of powers lies in its variable. -/
def Tab (w : World) : Prop := Lib.TabIs Tryd.prog w "internal/strconv.uint64pow10" .u64 Lib.pow10Tab
/-- Two errors lie in their variables. -/
def Errs (w : World) : Prop := (∃ tp p, w.var? Tryd.prog "strconv.ErrSyntax" = some #[.iface tp p]) ∧ ∃ tp p, w.var? Tryd.prog "strconv.ErrRange" = some #[.iface tp p]
theorem var_below {n : String} {g : Nat} (hg : Tryd.prog.globalNamed n = some g) {w w' : World} {cs : Array Value} (hb : Below w.heap.size w w') (h : w.var? Tryd.prog n = some cs) : w'.var? Tryd.prog n = some cs := by
  have hlt : g < w.heap.size := by
    unfold World.var? at h
    rw [hg] at h
    simp only [Option.bind_some] at h
    rcases Nat.lt_or_ge g w.heap.size with h' | h'
    · exact h'
    · rw [Array.getElem?_eq_none h'] at h; cases h
  exact var?_below hb hg hlt h
theorem Tab.below {w w' : World} (h : Tab w) (hb : Below w.heap.size w w') : Tab w' := var_below gTab hb h
theorem Errs.below {w w' : World} (h : Errs w) (hb : Below w.heap.size w w') : Errs w' := by
  obtain ⟨⟨t1, p1, h1⟩, t2, p2, h2⟩ := h
  exact ⟨⟨t1, p1, var_below gSyn hb h1⟩, t2, p2, var_below gRng hb h2⟩
theorem tab_of {l : List (String × DataW Unit)} {W : World} (h : laidMet Tryd.prog l W) (hm : ("internal/strconv.uint64pow10", Rows.laid_internal_strconv_uint64pow10) ∈ l) : Tab W := by
  obtain ⟨g, t, cs, fuel, p, h1, h2, h3, h4⟩ := Lib.laidMet.reads h hm
  obtain rfl := Option.some.inj (gTab.symm.trans h1)
  obtain rfl := Option.some.inj (gTabType.symm.trans h2)
  rw [dataTab] at h4
  have := Lib.cells_of_tab Tryd.underlying90 Tryd.underlying77 cellsU64 cellsTab h4
  unfold Tab Lib.TabIs
  rw [h3, ← this]
theorem err_of {l : List (String × DataW Unit)} {W : World} {n nm : String} {d : DataW Unit} {g : Nat} (hg : Tryd.prog.globalNamed n = some g) (ht : (Tryd.prog.globals[g]?).map (·.type) = some 50) (h : laidMet Tryd.prog l W) (hm : (n, DataW.iface nm d) ∈ l) : ∃ tp p, W.var? Tryd.prog n = some #[.iface tp p] := by
  obtain ⟨g', t, cs, fuel, p, h1, h2, h3, h4⟩ := Lib.laidMet.reads h hm
  obtain rfl := Option.some.inj (hg.symm.trans h1)
  obtain rfl := Option.some.inj (ht.symm.trans h2)
  obtain ⟨_, u, v, hcs, _, _⟩ := iface_of_trod Tryd.underlying50 h4
  refine ⟨u, v, h3.trans ?_⟩
  rw [show cs = cs.toList.toArray by simp, hcs]

def z3 : List Int := [1, 10, 100, 1000, 10000, 100000, 1000000, 10000000, 100000000, 1000000000, 10000000000, 100000000000, 1000000000000, 10000000000000, 100000000000000, 1000000000000000, 10000000000000000, 100000000000000000, 1000000000000000000, 10000000000000000000]
def z4 : List Int := [0, 1, 28, 2, 29, 14, 24, 3, 30, 22, 20, 15, 25, 17, 4, 8, 31, 27, 13, 23, 21, 19, 16, 7, 26, 12, 18, 6, 11, 5, 10, 9]
def z5 : List Int := [0, 1, 56, 2, 57, 49, 28, 3, 61, 58, 42, 50, 38, 29, 17, 4, 62, 47, 59, 36, 45, 43, 51, 22, 53, 39, 33, 30, 24, 18, 12, 5, 63, 55, 48, 27, 60, 41, 37, 16, 46, 35, 44, 21, 52, 32, 23, 11, 54, 26, 40, 15, 34, 20, 31, 10, 25, 14, 19, 9, 13, 8, 7, 6]
def mRng : List UInt8 := [118, 97, 108, 117, 101, 32, 111, 117, 116, 32, 111, 102, 32, 114, 97, 110, 103, 101]
def mSyn : List UInt8 := [105, 110, 118, 97, 108, 105, 100, 32, 115, 121, 110, 116, 97, 120]
noncomputable def laidWorld (os : Os) : World :=
  let N := (World.settled Tryd.prog os).heap.size
  let w0 := World.holding Tryd.prog os ⟨#[.cells #[.string ⟨mRng.toArray⟩] 98, .cells #[.string ⟨mSyn.toArray⟩] 98], #[], []⟩
  let put (h : Array Obj) (g : Nat) (cs : Array Value) : Array Obj := h.modify g fun
    | .cells _ t frozen => .cells cs t frozen
    | o => o
  let h0 := put (put w0.heap 0 #[.iface 96 (.pointer (some ⟨N + 1, 0, none⟩))]) 1 #[.iface 96 (.pointer (some ⟨N, 0, none⟩))]
  let h1 := put (put (put h0 3 (z3.map (Value.int .u64)).toArray) 4 (z4.map (Value.int .u8)).toArray) 5 (z5.map (Value.int .u8)).toArray
  { w0 with heap := h1 }
noncomputable abbrev N0 : Nat := (World.settled Tryd.prog default).heap.size
def laid3 : List (String × DataW Unit) := [("math/bits.deBruijn32tab", Rows.laid_math_bits_deBruijn32tab), ("math/bits.deBruijn64tab", Rows.laid_math_bits_deBruijn64tab), ("internal/strconv.uint64pow10", Rows.laid_internal_strconv_uint64pow10)]
def laid5 : List (String × DataW Unit) := laid3 ++ [("strconv.ErrRange", Rows.laid_strconv_ErrRange), ("strconv.ErrSyntax", Rows.laid_strconv_ErrSyntax)]
set_option maxRecDepth 1000000 in
theorem laid_met3 (os : Os) (args : Array Value) : laidMet Tryd.prog laid3 ((laidWorld os).forCall (fun _ _ => 0) ⟨#[], args, []⟩).memory :=
  laidMet_of_run' 10 (by kernel_rfl) (by kernel_rfl)
set_option maxRecDepth 1000000 in
theorem laid_met5 (os : Os) (args : Array Value) : laidMet Tryd.prog laid5 ((laidWorld os).forCall (fun _ _ => 0) ⟨#[], args, []⟩).memory :=
  laidMet_of_run' 10 (by kernel_rfl) (by kernel_rfl)
theorem std3 {W : World} (h : laidMetH Tryd.prog laid3 W) : Tab W := tab_of (l := laid3) h (by unfold laid3; simp)
theorem std5 {W : World} (h : laidMetH Tryd.prog laid5 W) : Tab W ∧ Errs W :=
  ⟨tab_of (l := laid5) h (by unfold laid5 laid3; simp), err_of (l := laid5) gSyn gSynType h (by unfold laid5 laid3; exact .tail _ (.tail _ (.tail _ (.tail _ (.head _))))), err_of (l := laid5) gRng gRngType h (by unfold laid5 laid3; exact .tail _ (.tail _ (.tail _ (.head _))))⟩
end Go.Proofs.YtpbflceekikbiaaDoor
