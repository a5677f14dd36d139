/-
  impl.FrameText. No conditions.
-/
import Derived.Test.YtfelhmcejkbpfaaWFrText
import Derived.Deep.DeepCutAuto
import Derived.Tactics2
namespace Go.Proofs.Ytfelhmcejkbpfaa
open Go.ChangeShapes Go.WideShapes Go.ChangeAt Go.RowKit

set_option maxHeartbeats 16000000 in
theorem i_FrameText (v : Int) (p : ByteArray) (hv : -9223372036854775808 ≤ v ∧ v ≤ 9223372036854775807) (w : World) : Calls Try.prog 32 #[.agg #[.int .i64 v, .string p]] w fun e w' => e = .returned (.string (frText v p)) ∧ Below w.heap.size w w' := by
  cases h : frOk v p
  · have HO := Lib.hid h
    have HT : Hid (frText v p = ⟨#[]⟩) := if_neg (by rw [h]; decide)
    clear h
    go_enter Try.func32, Try.ntmps32
    go_wp2_with fail
    refine (i_FrameOk v p _).mono ?_
    rintro e w1 ⟨rfl, hb1⟩
    rw [HO.out]
    go_wp2_with fail
    go_ret
    exact ⟨by rw [HT.out]; rfl, box_below hb1⟩
  · have h2 : (1 ≤ v ∧ v ≤ 9) ∧ (p.size : Int) ≤ 19980 := by
      unfold frOk at h
      simpa [inB] using h
    have HO := Lib.hid h
    obtain ⟨⟨h3, h4⟩, h5⟩ := h2
    obtain ⟨m, rfl⟩ : ∃ m : Nat, v = (m : Int) := ⟨v.toNat, by omega⟩
    obtain ⟨F, hF⟩ : ∃ F, Crc.fix 4 p.size = F := ⟨_, rfl⟩
    have hF4 : F.length = 4 := by rw [← hF, Crc.fix_length]
    have HFix : Hid (∀ w, Calls Try.prog 50 #[.int .i64 (p.size : Int), .int .i64 4] w fun e w' => e = .returned (.string ⟨F.toArray⟩) ∧ Below w.heap.size w w') := fun w => by
      have := i_FixedText_in p.size 4 (by omega) (by omega) (by omega) (by omega) w
      rw [hF] at this
      exact this
    have hwr := wrap_u8 (m := m) (by omega)
    obtain ⟨x, hx⟩ : ∃ x, UInt8.ofNat m = x := ⟨_, rfl⟩
    rw [hx] at hwr
    have hcv : ∀ (w : World) (b : Nat), w.cell? ⟨b, 0, none⟩ = some (.int .u8 (x.toNat : Int)) → (convert 30 9 (.slice (some ⟨b, 0, none⟩) 1 1)).run Try.prog w = .ok (.string ⟨#[x]⟩) w := fun w b => conv_one w b x
    obtain ⟨z, hz⟩ : ∃ z : Int, (x.toNat : Int) = z := ⟨_, rfl⟩
    rw [hz] at hwr hcv
    clear hz
    have h6 : ¬ 9223372036854775807 < 10 + p.size := by omega
    obtain ⟨T, hT⟩ : ∃ T, ((⟨#[66, 69, 82, 84, 72]⟩ : ByteArray) ++ ⟨#[x]⟩ ++ ⟨F.toArray⟩ ++ p) = T := ⟨_, rfl⟩
    have HTL : Hid (T.data.toList = frBody m p) := by
      unfold Hid frBody
      rw [← hT, hF, ← hx]
      simp
    have hTs : T.size = 10 + p.size := by
      rw [← hT]
      simp [ByteArray.size_append]
      simp [ByteArray.size, hF4]
    obtain ⟨Z, hZ⟩ : ∃ Z, Crc.sumOf T.data.toList = Z := ⟨_, rfl⟩
    have hZlt := Crc.sumOf_lt T.data.toList
    rw [hZ] at hZlt
    obtain ⟨G, hG⟩ : ∃ G, Crc.fix 4 Z = G := ⟨_, rfl⟩
    have HR : Hid (frText m p = ⟨(T.data.toList ++ G).toArray⟩) := by
      unfold Hid frText
      rw [if_pos h, ← HTL.out]
      unfold Crc.sealedL
      rw [hZ, hG]
    have HSum : Hid (∀ w, Calls Try.prog 22 #[.string T] w fun e w' => e = .returned (.int .i64 (Z : Int)) ∧ w = w') := fun w => by
      have := i_SumOf T (by omega) w
      rw [hZ] at this
      exact this
    have HFix2 : Hid (∀ w, Calls Try.prog 50 #[.int .i64 (Z : Int), .int .i64 4] w fun e w' => e = .returned (.string ⟨G.toArray⟩) ∧ Below w.heap.size w w') := fun w => by
      have := i_FixedText_in Z 4 (by omega) (by omega) (by omega) (by omega) w
      rw [hG] at this
      exact this
    have hG4 : G.length = 4 := by rw [← hG, Crc.fix_length]
    have h7 : ¬ 9223372036854775807 < 10 + p.size + 4 := by omega
    clear hx hF hZ hG hZlt h
    go_enter Try.func32, Try.ntmps32
    go_wp2_with fail
    refine (i_FrameOk m p _).mono ?_
    rintro e w1 ⟨rfl, hb1⟩
    rw [HO.out]
    obtain ⟨hc0, hc1⟩ := box_cells hb1
    have hS : w.heap.size < w1.heap.size := by have := hb1.size; simp at this; omega
    have hS : w.heap.size < w1.heap.size ∧ w1.cell? ⟨w.heap.size, 0, none⟩ = some (.int .i64 m) ∧ w1.cell? ⟨w.heap.size, 1, none⟩ = some (.string p) := ⟨hS, hc0, hc1⟩
    have ha0 : ∀ o, (w1.alloc o).cell? ⟨w.heap.size, 0, none⟩ = some (.int .i64 m) := fun o => (frs_alloc hS o).2.1
    have ha1 : ∀ o, (w1.alloc o).cell? ⟨w.heap.size, 1, none⟩ = some (.string p) := fun o => (frs_alloc hS o).2.2
    have hb3 := box_below hb1
    have k1 := hb3.size
    go_upto_region 3 with fail
    go_cut [3] (fun s3 wx => s3 = .string T ∧ Below w.heap.size w wx)
    case first =>
      clear HR HTL h7 hG4 HSum HFix2
      go_region_with (first | (go_at_call 50; refine (HFix.out _).mono ?_; rintro e w2 ⟨rfl, hb2⟩; have hd0 : w2.cell? ⟨w.heap.size, 0, none⟩ = some (.int .i64 m) := (hb2.cell (by simp <;> omega)).trans (by simp [*]); have hd1 : w2.cell? ⟨w.heap.size, 1, none⟩ = some (.string p) := (hb2.cell (by simp <;> omega)).trans (by simp [*]); have hlt2 : w.heap.size < w2.heap.size := (by have hq := hb2.size; (try simp at hq); omega); have he0 : ∀ o, (w2.alloc o).cell? ⟨w.heap.size, 0, none⟩ = some (.int .i64 m) := fun o => (frs_alloc ⟨hlt2, hd0, hd1⟩ o).2.1; have he1 : ∀ o, (w2.alloc o).cell? ⟨w.heap.size, 1, none⟩ = some (.string p) := fun o => (frs_alloc ⟨hlt2, hd0, hd1⟩ o).2.2; first | have hnc := new_cell_drew hb2 | have hnc := new_cell hb2 | skip))
      all_goals
        go_wp2_with fail
        go_meet
        refine ⟨rfl, ?_⟩
        have k2 : Below w.heap.size w w2 := by
          first
          | exact (hb3.drew.alloc k1 _).drew.trans (hb2.mono (by simp <;> omega))
          | exact (hb3.alloc k1 _).drew.trans (hb2.mono (by simp <;> omega))
          | exact hb3.drew.trans (hb2.mono (by simp <;> omega))
          | exact hb3.trans (hb2.mono (by simp <;> omega))
        have k3 := k2.size
        first
        | exact k2
        | exact k2.drew
        | exact k2.alloc k3 _
        | exact (k2.alloc k3 _).drew
    case rest =>
      obtain ⟨rfl, hb2⟩ := hcut
      go_wp2_with fail
      refine (HSum.out _).mono ?_
      rintro e w3 ⟨rfl, rfl⟩
      go_wp2_with fail
      refine (HFix2.out _).mono ?_
      rintro e w3 ⟨rfl, hb4⟩
      go_wp2_with fail
      go_ret
      exact ⟨ret_bytes0 (by rw [HR.out, ← app_list]), below_step hb2 (Nat.le_refl _) hb4⟩
end Go.Proofs.Ytfelhmcejkbpfaa
