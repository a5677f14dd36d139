/-
  Frames: szFrame, toFrame, FrameOk (both sides). No conditions.
-/
import Derived.Test.YtfelhmcejkbpfaaBytes
import Derived.Test.YtfelhmcejkbpfaaWInt
import Derived.Deep.QuietTactic
import Derived.WalkSmall
namespace Go.Proofs.Ytfelhmcejkbpfaa
open Go.ChangeShapes Go.WideShapes Go.ChangeAt Go.RowKit

theorem box_cells {w w1 : World} {x y : Value} {t : TypeId} (h : Below (w.alloc (.cells #[x, y] t)).heap.size (w.alloc (.cells #[x, y] t)) w1) : w1.cell? ⟨w.heap.size, 0, none⟩ = some x ∧ w1.cell? ⟨w.heap.size, 1, none⟩ = some y := by
  have hn := heap_alloc_new w (.cells #[x, y] t)
  refine ⟨?_, ?_⟩
  · rw [h.cell (by simp), cell_of_row _ _ 0 _ _ _ hn]; rfl
  · rw [h.cell (by simp), cell_of_row _ _ 1 _ _ _ hn]; rfl
theorem box_below {w w1 : World} {o : Obj} (h : Below (w.alloc o).heap.size (w.alloc o) w1) : Below w.heap.size w w1 :=
  ((Below.refl _ _).alloc (Nat.le_refl _) o).trans (h.mono (by simp))
theorem below_step {B : Nat} {w a b : World} (h : Below B w a) (hB : B ≤ w.heap.size) (k : Below a.heap.size a b) : Below B w b := h.trans (k.mono (Nat.le_trans hB h.size))

theorem l_szFrame (v : Int) (p : ByteArray) (k : Int) (hk : k = 1048576) (hp : p.size ≤ maxLen) (w : World) : Calls Try.prog 29 #[.agg #[.int .i64 v, .string p], .int .i64 k] w fun e w' => e = .returned (.int .i64 (if k - p.size < 0 then -1 else k - p.size)) ∧ Below w.heap.size w w' := by
  have hm : p.size ≤ 9223372036854775807 := by unfold maxLen at hp; omega
  subst hk
  by_cases h : (1048576 : Int) - (p.size : Int) < 0
  · go_enter Try.func29, Try.ntmps29
    go_wp2
    go_ret
    exact ⟨rfl, by go_grown⟩
  · go_enter Try.func29, Try.ntmps29
    go_wp2
    go_ret
    exact ⟨rfl, by go_grown⟩

theorem l_toFrame (v : Int) (p : ByteArray) (w : World) : Calls Try.prog 31 #[.agg #[.int .i64 v, .string p]] w fun e w' => e = .returned (.agg #[.int .i64 v, .string p]) ∧ Below w.heap.size w w' := by
  go_enter Try.func31, Try.ntmps31
  go_wp2
  (try simp only [Exit.inBlock, Exit.then])
  refine bodyPost_ret (v := .agg #[.int .i64 v, .string p]) ?_ rfl ⟨rfl, by go_grown⟩
  simp [results, Try.results31, go_sem]

def frOk (v : Int) (p : ByteArray) : Bool := inB v 1 9 && decide ((p.size : Int) ≤ 19980)

theorem ret_bool {a b : Bool} (h : a = b) : Ending.returned (.bool a) = .returned (.bool b) := by rw [h]
theorem s_FrameOk (v : Int) (p : ByteArray) (w : World) : Calls Try.prog 43 #[.agg #[.int .i64 v, .string p]] w fun e w' => e = .returned (.bool (frOk v p)) ∧ Below w.heap.size w w' := by
  cases h : inB v 1 9
  · have HI := Lib.hid h
    go_enter Try.func43, Try.ntmps43
    go_wp2_with (go_at_call 47; refine (s_l01In _ _ _ _).mono ?_; rintro e w' ⟨rfl, rfl⟩; rw [HI.out])
    go_ret
    exact ⟨ret_bool (by unfold frOk; rw [HI.out]; rfl), by go_grown⟩
  · have HI := Lib.hid h
    go_enter Try.func43, Try.ntmps43
    go_wp2_with (go_at_call 47; refine (s_l01In _ _ _ _).mono ?_; rintro e w' ⟨rfl, rfl⟩; rw [HI.out])
    go_ret
    exact ⟨ret_bool (by unfold frOk; rw [HI.out]; rfl), by go_grown⟩
theorem i_FrameOk (v : Int) (p : ByteArray) (w : World) : Calls Try.prog 44 #[.agg #[.int .i64 v, .string p]] w fun e w' => e = .returned (.bool (frOk v p)) ∧ Below w.heap.size w w' := by
  cases h : inB v 1 9
  · have HI := Lib.hid h
    go_enter Try.func44, Try.ntmps44
    go_wp2_with (go_at_call 48; refine (i_within _ _ _ _).mono ?_; rintro e w' ⟨rfl, rfl⟩; rw [HI.out])
    go_ret
    exact ⟨ret_bool (by unfold frOk; rw [HI.out]; rfl), by go_grown⟩
  · have HI := Lib.hid h
    go_enter Try.func44, Try.ntmps44
    go_wp2_with (go_at_call 48; refine (i_within _ _ _ _).mono ?_; rintro e w' ⟨rfl, rfl⟩; rw [HI.out])
    go_ret
    exact ⟨ret_bool (by unfold frOk; rw [HI.out]; rfl), by go_grown⟩


end Go.Proofs.Ytfelhmcejkbpfaa
