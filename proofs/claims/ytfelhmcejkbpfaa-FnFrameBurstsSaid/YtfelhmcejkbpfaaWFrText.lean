/-
  FrameText (both sides). No conditions.
-/
import Derived.Test.YtfelhmcejkbpfaaWFrame
import Derived.Test.YtfelhmcejkbpfaaWSeal
namespace Go.Proofs.Ytfelhmcejkbpfaa
open Go.ChangeShapes Go.WideShapes Go.ChangeAt Go.RowKit

theorem frs_below {g : Nat} {a b : Value} {x y : World} (h : g < x.heap.size ∧ x.cell? ⟨g, 0, none⟩ = some a ∧ x.cell? ⟨g, 1, none⟩ = some b) (k : Below x.heap.size x y) :
    g < y.heap.size ∧ y.cell? ⟨g, 0, none⟩ = some a ∧ y.cell? ⟨g, 1, none⟩ = some b :=
  ⟨Nat.lt_of_lt_of_le h.1 k.size, by rw [k.cell h.1]; exact h.2.1, by rw [k.cell h.1]; exact h.2.2⟩
theorem frs_alloc {g : Nat} {a b : Value} {x : World} (h : g < x.heap.size ∧ x.cell? ⟨g, 0, none⟩ = some a ∧ x.cell? ⟨g, 1, none⟩ = some b) (o : Obj) :
    g < (x.alloc o).heap.size ∧ (x.alloc o).cell? ⟨g, 0, none⟩ = some a ∧ (x.alloc o).cell? ⟨g, 1, none⟩ = some b :=
  frs_below h ((Below.refl _ _).alloc (Nat.le_refl _) o)
theorem frs_drew {g : Nat} {a b : Value} {x : World} (h : g < x.heap.size ∧ x.cell? ⟨g, 0, none⟩ = some a ∧ x.cell? ⟨g, 1, none⟩ = some b) :
    g < x.drew.heap.size ∧ x.drew.cell? ⟨g, 0, none⟩ = some a ∧ x.drew.cell? ⟨g, 1, none⟩ = some b := h
theorem new_cell {x y : World} {u : Value} {t : TypeId} (h : Below (x.alloc (.cells #[u] t)).heap.size (x.alloc (.cells #[u] t)) y) : y.cell? ⟨x.heap.size, 0, none⟩ = some u := by
  have hn := heap_alloc_new x (.cells #[u] t)
  rw [h.cell (by simp), cell_of_row _ _ 0 _ _ _ hn]; rfl

theorem new_cell_drew {x y : World} {u : Value} {t : TypeId} (h : Below (x.alloc (.cells #[u] t)).drew.heap.size (x.alloc (.cells #[u] t)).drew y) : y.cell? ⟨x.heap.size, 0, none⟩ = some u := by
  have hn := heap_alloc_new x (.cells #[u] t)
  have hn' : (x.alloc (.cells #[u] t)).drew.heap[x.heap.size]? = some (.cells #[u] t) := hn
  rw [h.cell (by show x.heap.size < (x.alloc (.cells #[u] t)).heap.size; simp), cell_of_row _ _ 0 _ _ _ hn']; rfl
theorem conv_one (w : World) (b : Nat) (x : UInt8) (h : w.cell? ⟨b, 0, none⟩ = some (.int .u8 (x.toNat : Int))) : (convert 30 9 (.slice (some ⟨b, 0, none⟩) 1 1)).run Try.prog w = .ok (.string ⟨#[x]⟩) w := by
  refine run_convert_bytes_back (P := Try.prog) w 30 9 5 ⟨b, 0, none⟩ 1 [x] Try.underlying30 Try.underlying5 Try.underlying9 (fun j hj => ?_)
  obtain rfl : j = 0 := by simpa using hj
  exact h
theorem wrap_u8 {m : Nat} (h : m < 256) : IntKind.u8.wrap (m : Int) = ((UInt8.ofNat m).toNat : Int) := by
  rw [u8_toInt h]
  simp [IntKind.wrap, IntKind.signed, IntKind.bits]
  omega

theorem ret_bytes0 {a b : ByteArray} (h : a = b) : Ending.returned (.string a) = .returned (.string b) := by rw [h]
def frBody (v : Int) (p : ByteArray) : List UInt8 := 66 :: 69 :: 82 :: 84 :: 72 :: UInt8.ofNat v.toNat :: (Crc.fix 4 p.size ++ p.data.toList)
def frText (v : Int) (p : ByteArray) : ByteArray := if frOk v p = true then ⟨(Crc.sealedL (frBody v p)).toArray⟩ else ⟨#[]⟩

end Go.Proofs.Ytfelhmcejkbpfaa
