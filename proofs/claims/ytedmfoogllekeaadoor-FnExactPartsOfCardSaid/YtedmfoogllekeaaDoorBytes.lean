/-
  Slices of bytes that a call makes for itself: a byte appended, and the slice read as a string. No conditions but the bound on the length.
-/
import Derived.Test.YtedmfoogllekeaaDoorKit
import Derived.Laws.IdiomStrings
import Derived.WalkLawsBesides
import Derived.Handy
import Derived.Outline
import Derived.Lib.Hide
namespace Go.Proofs.YtedmfoogllekeaaDoor
open Go.RowKit

theorem ret_str {l l' : List UInt8} (h : l = l') : Ending.returned (.string ⟨l.toArray⟩) = .returned (.string ⟨l'.toArray⟩) := by rw [h]
def bc (l : List UInt8) : List Value := l.map fun b => .int .u8 (b.toNat : Int)
theorem bc_length (l : List UInt8) : (bc l).length = l.length := by simp [bc]
theorem bc_append (a b : List UInt8) : bc (a ++ b) = bc a ++ bc b := by simp [bc]
theorem bc_one (l : List UInt8) : ∀ u ∈ bc l, u.oneCell' = true := by
  intro u hu
  simp only [bc, List.mem_map] at hu
  obtain ⟨b, _, rfl⟩ := hu
  rfl

theorem infoByte : (Tryd.prog.info? 5).map (fun i => (i.zero, i.size, i.bytes)) = some (some (.int .u8 0), 1, 1) := by kernel_rfl

/-- The slice value v owns the bytes l, in blocks from B on. -/
def OwnB (w : World) (B : Nat) (v : Value) (l : List UInt8) : Prop := w.ownsRow B 5 1 v l.length (bc l)

theorem OwnB.nil (w : World) (B : Nat) : OwnB w B (.slice none 0 0) [] := World.ownsRow_nil _ _ _ _
theorem OwnB.made (w : World) (B : Nat) (cap : Nat) (cur : Array Value) (hB : B ≤ w.heap.size) (hm : cap ≤ maxLen) (hc : cur.size = cap) : OwnB (w.alloc (.cells cur 5)) B (.slice (some ⟨w.heap.size, 0, none⟩) 0 cap) [] :=
  World.ownsRow_made w cur cap hB hm (by omega)

theorem OwnB.conv {w : World} {B : Nat} {v : Value} {l : List UInt8} (h : OwnB w B v l) : (convert 37 9 v).run Tryd.prog w = .ok (.string ⟨l.toArray⟩) w := by
  rcases h.2 with ⟨rfl, h0⟩ | ⟨g, cap, cur, rfl, -⟩
  · have hl : l = [] := List.eq_nil_of_length_eq_zero h0
    subst hl
    rw [run_convert_bytes_string w 37 9 5 none 0 0 Tryd.underlying37 Tryd.underlying5 Tryd.underlying9]
    simp [Conv.bytesToString]
    rfl
  · refine run_convert_bytes_back (P := Tryd.prog) w 37 9 5 ⟨g, 0, none⟩ cap l Tryd.underlying37 Tryd.underlying5 Tryd.underlying9 (fun j hj => ?_)
    exact World.ownsRow.cells h (g := g) rfl j _ (by simp [bc, hj])

theorem OwnB.below {w w' : World} {B : Nat} {v : Value} {l : List UInt8} (h : OwnB w B v l) (hb : ∀ k, v.ownBlock = some k → w'.heap[k]? = w.heap[k]?) : OwnB w' B v l := by
  refine ⟨h.1, ?_⟩
  rcases h.2 with hn | ⟨g, cap, cur, rfl, hB, hg, rest⟩
  · exact .inl hn
  · exact .inr ⟨g, cap, cur, rfl, hB, by rw [hb g rfl]; exact hg, rest⟩

/-- 'append(out, x)' of one byte: x has just been laid in a block of its own. -/
theorem wpList_push {ops : Array Oper} {rest : List Oper} {o : Oper} {a : Act} {Q : Exit → Act → World → Prop} (hgd : o.guard = none)
    {w0 : World} {B : Nat} {v : Value} {l : List UInt8} (hown : OwnB w0 B v l) (b : UInt8) (s x : Operand)
    (ho : o.op = .call { callee := .builtin .append, args := #[s, x], argTypes := #[37, 37] })
    (X : Int) (hs : a.eval s = v) (hx : a.eval x = .slice (some ⟨w0.heap.size, 0, none⟩) 1 1)
    (hX : X = (b.toNat : Int)) (hl : l.length + 1 ≤ 140737488355328) (hB : B ≤ w0.heap.size)
    (K : ∀ v' w', OwnB w' B v' (l ++ [b]) → Below B w0 w' → wpList Tryd.prog ops Q rest (a.put o.dst v') w') :
    wpList Tryd.prog ops Q (o :: rest) a (w0.alloc (.cells #[.int .u8 X] 5)) := by
  subst hX
  obtain ⟨i0, hi, hz0, hz1, hz2⟩ := info_parts infoByte
  refine wpList_append_own _ hgd s x 37 ho B 5 i0 (.int .u8 0) 1 1 Tryd.underlying37 hi hz0 hz1 hz2 rfl (by decide) v l.length (bc l) hs (hown.alloc _) ⟨w0.heap.size, 0, none⟩ 1 1 (bc [b]) hx rfl ?_ (bc_one _) (by unfold maxLen; omega) (by omega) (by simp; omega) ?_
  · intro j u hj
    match j, hj with
    | 0, hj => simp [bc] at hj; subst hj; simp [Addr.add]
  · intro v' w' hown' hg _
    refine K v' w' ?_ ?_
    · unfold OwnB
      rw [bc_append, List.length_append]
      exact hown'
    · exact ((Below.refl B w0).alloc hB _).grown hg (by simp; omega) (fun k hk => (hown.lt k hk).1)

/-- 'append(out, x, y)' of two bytes. -/
theorem wpList_push2 {ops : Array Oper} {rest : List Oper} {o : Oper} {a : Act} {Q : Exit → Act → World → Prop} (hgd : o.guard = none)
    {w0 : World} {B : Nat} {v : Value} {l : List UInt8} (hown : OwnB w0 B v l) (b c : UInt8) (s x : Operand)
    (ho : o.op = .call { callee := .builtin .append, args := #[s, x], argTypes := #[37, 37] })
    (X Y : Int) (hs : a.eval s = v) (hx : a.eval x = .slice (some ⟨w0.heap.size, 0, none⟩) 2 2)
    (hX : X = (b.toNat : Int)) (hY : Y = (c.toNat : Int)) (hl : l.length + 2 ≤ 140737488355328) (hB : B ≤ w0.heap.size)
    (K : ∀ v' w', OwnB w' B v' (l ++ [b, c]) → Below B w0 w' → wpList Tryd.prog ops Q rest (a.put o.dst v') w') :
    wpList Tryd.prog ops Q (o :: rest) a (w0.alloc (.cells #[.int .u8 X, .int .u8 Y] 5)) := by
  subst hX hY
  obtain ⟨i0, hi, hz0, hz1, hz2⟩ := info_parts infoByte
  refine wpList_append_own _ hgd s x 37 ho B 5 i0 (.int .u8 0) 1 1 Tryd.underlying37 hi hz0 hz1 hz2 rfl (by decide) v l.length (bc l) hs (hown.alloc _) ⟨w0.heap.size, 0, none⟩ 2 2 (bc [b, c]) hx rfl ?_ (bc_one _) (by unfold maxLen; omega) (by omega) (by simp; omega) ?_
  · intro j u hj
    match j, hj with
    | 0, hj => simp [bc] at hj; subst hj; simp [Addr.add]
    | 1, hj => simp [bc] at hj; subst hj; simp [Addr.add]
  · intro v' w' hown' hg _
    refine K v' w' ?_ ?_
    · unfold OwnB
      rw [bc_append, List.length_append]
      exact hown'
    · exact ((Below.refl B w0).alloc hB _).grown hg (by simp; omega) (fun k hk => (hown.lt k hk).1)
end Go.Proofs.YtedmfoogllekeaaDoor
