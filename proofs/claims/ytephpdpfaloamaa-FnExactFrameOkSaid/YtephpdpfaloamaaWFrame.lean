/-
  Frames: szFrame, toFrame, FrameOk (both sides). No conditions.
-/
import Derived.Test.YtephpdpfaloamaaBytes
import Derived.Test.YtephpdpfaloamaaWInt
import Derived.Deep.QuietTactic
import Derived.WalkSmall
namespace Go.Proofs.Ytephpdpfaloamaa
open Go.ChangeShapes Go.WideShapes Go.ChangeAt Go.RowKit

theorem box_cells {w w1 : World} {x y : Value} {t : TypeId} (h : Below (w.alloc (.cells #[x, y] t)).heap.size (w.alloc (.cells #[x, y] t)) w1) : w1.cell? ⟨w.heap.size, 0, none⟩ = some x ∧ w1.cell? ⟨w.heap.size, 1, none⟩ = some y := by
  have hn := heap_alloc_new w (.cells #[x, y] t)
  refine ⟨?_, ?_⟩
  · rw [h.cell (by simp), cell_of_row _ _ 0 _ _ _ hn]; rfl
  · rw [h.cell (by simp), cell_of_row _ _ 1 _ _ _ hn]; rfl
theorem box_below {w w1 : World} {o : Obj} (h : Below (w.alloc o).heap.size (w.alloc o) w1) : Below w.heap.size w w1 :=
  ((Below.refl _ _).alloc (Nat.le_refl _) o).trans (h.mono (by simp))
theorem below_step {B : Nat} {w a b : World} (h : Below B w a) (hB : B ≤ w.heap.size) (k : Below a.heap.size a b) : Below B w b := h.trans (k.mono (Nat.le_trans hB h.size))

theorem l_szFrame (v : Int) (p : ByteArray) (k : Int) (hk : k = 1048576) (hp : p.size ≤ maxLen) (w : World) : Calls Try.prog 16 #[.agg #[.int .i64 v, .string p], .int .i64 k] w fun e w' => e = .returned (.int .i64 (if k - p.size < 0 then -1 else k - p.size)) ∧ Below w.heap.size w w' := by
  have hm : p.size ≤ 9223372036854775807 := by unfold maxLen at hp; omega
  subst hk
  by_cases h : (1048576 : Int) - (p.size : Int) < 0
  · go_enter Try.func16, Try.ntmps16
    go_wp2
    go_ret
    exact ⟨rfl, by go_grown⟩
  · go_enter Try.func16, Try.ntmps16
    go_wp2
    go_ret
    exact ⟨rfl, by go_grown⟩

theorem l_toFrame (v : Int) (p : ByteArray) (w : World) : Calls Try.prog 18 #[.agg #[.int .i64 v, .string p]] w fun e w' => e = .returned (.agg #[.int .i64 v, .string p]) ∧ Below w.heap.size w w' := by
  go_enter Try.func18, Try.ntmps18
  go_wp2
  (try simp only [Exit.inBlock, Exit.then])
  refine bodyPost_ret (v := .agg #[.int .i64 v, .string p]) ?_ rfl ⟨rfl, by go_grown⟩
  simp [results, Try.results18, go_sem]

def frOk (v : Int) (p : ByteArray) : Bool := inB v 1 9 && decide ((p.size : Int) ≤ 19980)

theorem ret_bool {a b : Bool} (h : a = b) : Ending.returned (.bool a) = .returned (.bool b) := by rw [h]
theorem s_FrameOk (v : Int) (p : ByteArray) (w : World) : Calls Try.prog 17 #[.agg #[.int .i64 v, .string p]] w fun e w' => e = .returned (.bool (frOk v p)) ∧ Below w.heap.size w w' := by
  cases h : inB v 1 9
  · have HI := Lib.hid h
    go_enter Try.func17, Try.ntmps17
    go_wp2_with (go_at_call 39; refine (s_l01In _ _ _ _).mono ?_; rintro e w' ⟨rfl, rfl⟩; rw [HI.out])
    go_ret
    exact ⟨ret_bool (by unfold frOk; rw [HI.out]; rfl), by go_grown⟩
  · have HI := Lib.hid h
    go_enter Try.func17, Try.ntmps17
    go_wp2_with (go_at_call 39; refine (s_l01In _ _ _ _).mono ?_; rintro e w' ⟨rfl, rfl⟩; rw [HI.out])
    go_ret
    exact ⟨ret_bool (by unfold frOk; rw [HI.out]; rfl), by go_grown⟩
theorem i_FrameOk (v : Int) (p : ByteArray) (w : World) : Calls Try.prog 19 #[.agg #[.int .i64 v, .string p]] w fun e w' => e = .returned (.bool (frOk v p)) ∧ Below w.heap.size w w' := by
  cases h : inB v 1 9
  · have HI := Lib.hid h
    go_enter Try.func19, Try.ntmps19
    go_wp2_with (go_at_call 40; refine (i_within _ _ _ _).mono ?_; rintro e w' ⟨rfl, rfl⟩; rw [HI.out])
    go_ret
    exact ⟨ret_bool (by unfold frOk; rw [HI.out]; rfl), by go_grown⟩
  · have HI := Lib.hid h
    go_enter Try.func19, Try.ntmps19
    go_wp2_with (go_at_call 40; refine (i_within _ _ _ _).mono ?_; rintro e w' ⟨rfl, rfl⟩; rw [HI.out])
    go_ret
    exact ⟨ret_bool (by unfold frOk; rw [HI.out]; rfl), by go_grown⟩

theorem walk_FnExactFrameOk (v : Int) (p : ByteArray) (w : World) (_hv : (Lit.int .i64 v).wf = true) (hp : p.size ≤ maxLen) : Calls Try.prog 4 #[.agg #[.int .i64 v, .string p]] w fun e w' => e = .returned (.bool true) ∧ Below w.heap.size w w' := by
  by_cases h : (1048576 : Int) - (p.size : Int) < 0
  · have HZ : Hid ((if (1048576 : Int) - p.size < 0 then -1 else 1048576 - p.size : Int) = -1) := if_pos h
    go_enter Try.func4, Try.ntmps4
    go_wp2_with (go_at_call 16; refine (l_szFrame v p _ rfl hp _).mono ?_; rintro e w1 ⟨rfl, hb1⟩; rw [HZ.out])
    go_ret
    exact ⟨rfl, box_below hb1⟩
  · have HZ : Hid ((if (1048576 : Int) - p.size < 0 then -1 else 1048576 - p.size : Int) = 1048576 - p.size) := if_neg h
    go_enter Try.func4, Try.ntmps4
    go_wp2_with fail
    refine (l_szFrame v p _ rfl hp _).mono ?_
    rintro e w1 ⟨rfl, hb1⟩
    rw [HZ.out]
    obtain ⟨hc0, hc1⟩ := box_cells hb1
    go_wp2_with fail
    refine (l_toFrame v p _).mono ?_
    rintro e w2 ⟨rfl, hb2⟩
    have hb2 := below_step hb1 (Nat.le_refl _) hb2
    go_wp2_with fail
    refine (s_FrameOk v p _).mono ?_
    rintro e w3 ⟨rfl, hb3⟩
    have hb3 := below_step hb2 (Nat.le_refl _) hb3
    clear hc0 hc1
    obtain ⟨hc0, hc1⟩ := box_cells hb3
    go_wp2_with fail
    refine (l_toFrame v p _).mono ?_
    rintro e w4 ⟨rfl, hb4⟩
    have hb4 := below_step hb3 (Nat.le_refl _) hb4
    go_wp2_with fail
    refine (i_FrameOk v p _).mono ?_
    rintro e w5 ⟨rfl, hb5⟩
    have hb5 := below_step hb4 (Nat.le_refl _) hb5
    go_wp2_with fail
    go_ret
    exact ⟨rfl, box_below hb5⟩

end Go.Proofs.Ytephpdpfaloamaa
