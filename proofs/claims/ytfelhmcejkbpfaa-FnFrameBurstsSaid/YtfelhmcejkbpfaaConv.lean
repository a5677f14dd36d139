/-
  '[]byte(s)' of a string: a new row that holds its bytes, may be written, and reads back as a string. No conditions.
-/
import Derived.Test.YtfelhmcejkbpfaaBytes
namespace Go.Proofs.Ytfelhmcejkbpfaa
open Go.RowKit

/-- Block G holds the bytes l first, and these may be written. -/
def Buf (W : World) (G : Nat) (l : List UInt8) : Prop :=
  ∃ cur fz, W.heap[G]? = some (.cells cur 5 (fz, fz + 1)) ∧ l.length ≤ fz ∧ ∀ j (h : j < l.length), cur[j]? = some (.int .u8 (l[j].toNat : Int))
theorem Buf.cell {W : World} {G : Nat} {l : List UInt8} (B : Buf W G l) (j : Nat) (h : j < l.length) : W.cell? ⟨G, j, none⟩ = some (.int .u8 (l[j].toNat : Int)) := by
  obtain ⟨cur, fz, hr, _, hc⟩ := B
  rw [cell_of_row W G j cur _ _ hr]
  exact hc j h
theorem Buf.free {W : World} {G : Nat} {l : List UInt8} (B : Buf W G l) (j : Nat) (h : j < l.length) : W.frozen? ⟨G, j, none⟩ = false := by
  obtain ⟨cur, fz, hr, hf, _⟩ := B
  simp [World.frozen?, hr]
  omega
theorem Buf.set {W : World} {G : Nat} {l : List UInt8} (B : Buf W G l) (j : Nat) (c : UInt8) (v : Int) (hv : v = (c.toNat : Int)) : Buf (W.setCell ⟨G, j, none⟩ (.int .u8 v)) G (l.set j c) := by
  subst hv
  obtain ⟨cur, fz, hr, hf, hc⟩ := B
  refine ⟨cur.setIfInBounds j (.int .u8 (c.toNat : Int)), fz, ?_, by simpa using hf, fun i hi => ?_⟩
  · simp only [World.setCell, Array.getElem?_modify, hr]
    simp
  · have hi' : i < l.length := by simpa using hi
    have hci := hc i hi'
    have hsz : i < cur.size := (Array.getElem?_eq_some_iff.1 hci).1
    by_cases h : j = i
    · subst h
      simp [hsz]
    · rw [Array.getElem?_setIfInBounds_ne h, hci]
      simp [h]
theorem Buf.conv {W : World} {G : Nat} {l : List UInt8} (B : Buf W G l) (cap n : Nat) (hn : n = l.length) : (convert 30 9 (.slice (some ⟨G, 0, none⟩) n cap)).run Try.prog W = .ok (.string ⟨l.toArray⟩) W := by
  subst hn
  refine run_convert_bytes_back (P := Try.prog) W 30 9 5 ⟨G, 0, none⟩ cap l Try.underlying30 Try.underlying5 Try.underlying9 (fun j hj => ?_)
  have hadd : (⟨G, 0, none⟩ : Addr).add j = ⟨G, j, none⟩ := by unfold Addr.add; split <;> simp_all
  rw [hadd]
  exact B.cell j hj
theorem Buf.of_heap {W W' : World} {G : Nat} {l : List UInt8} (B : Buf W G l) (h : W'.heap[G]? = W.heap[G]?) : Buf W' G l := by
  obtain ⟨cur, fz, hr, hf, hc⟩ := B
  exact ⟨cur, fz, by rw [h]; exact hr, hf, hc⟩

theorem conv_bytes (w : World) (s : ByteArray) : ∃ cap W, (convert 9 30 (.string s)).run Try.prog w = .ok (.slice (some ⟨w.heap.size, 0, none⟩) s.size cap) W ∧
    Buf W w.heap.size s.data.toList ∧ Below w.heap.size w W ∧ W.heap.size = w.heap.size + 1 := by
  have hrow := heap_alloc_new w.drew (.cells (bytesRow s (grownCap w s.size 0 5)) 5 ((bytesRow s (grownCap w s.size 0 5)).size, (bytesRow s (grownCap w s.size 0 5)).size + 1))
  refine ⟨grownCap w s.size 0 5, _, run_bytes_of_string (P := Try.prog) w 9 30 5 s Try.underlying9 Try.underlying30 Try.underlying5, ⟨_, _, hrow, ?_, ?_⟩, ?_, ?_⟩
  · simp [bytesRow]
  · intro j h
    have hj : j < s.data.size := by simpa using h
    have hj2 : j < s.size := hj
    simp [bytesRow, Array.getElem?_append, hj2]
  · exact ((Below.refl _ w).drew).alloc (Nat.le_refl _) _
  · simp
end Go.Proofs.Ytfelhmcejkbpfaa
