/-
  VarSize, ShortText, ReadShort (both sides) and the laws on VarText, VarSize, ShortText, ReadVar, ReadShort. No conditions.
-/
import Derived.Test.YtephpdpfaloamaaWVar
import Derived.Test.YtephpdpfaloamaaWRead
namespace Go.Proofs.Ytephpdpfaloamaa
open Go.ChangeShapes Go.WideShapes Go.ChangeAt Go.RowKit

theorem rd_bd : ∀ (f k N : Nat) (l : List UInt8) (n j : Nat), Enc.rd f k N l = some (n, j) → N < 128 ^ k → j ≤ k + l.length ∧ n < 128 ^ (k + f)
  | 0, _, _, _, _, _, h, _ => by simp [Enc.rd] at h
  | _ + 1, _, _, [], _, _, h, _ => by simp [Enc.rd] at h
  | f + 1, k, N, c :: t, n, j, h, hN => by
    unfold Enc.rd at h
    split at h
    · split at h
      · cases h
      · rename_i hc _
        simp only [Option.some.injEq, Prod.mk.injEq] at h
        obtain ⟨rfl, rfl⟩ := h
        have h1 := grp_lt (c := c.toNat) hN
        rw [Nat.mod_eq_of_lt hc] at h1
        have h2 : 128 ^ (k + 1) ≤ 128 ^ (k + (f + 1)) := Nat.pow_le_pow_right (by decide) (by omega)
        exact ⟨by simp, by omega⟩
    · have h1 := grp_lt (c := c.toNat) hN
      obtain ⟨a, b⟩ := rd_bd f (k + 1) _ t n j h h1
      exact ⟨by simp; omega, by rw [show k + (f + 1) = k + 1 + f by omega]; exact b⟩

theorem rv_cases (s : ByteArray) (a : Int) : rv s a = (0, -1) ∨ ∃ n m : Nat, rv s a = ((n : Int), (m : Int)) ∧ m ≤ s.size ∧ n ≤ 9223372036854775807 := by
  by_cases h : 0 ≤ a ∧ a < s.size
  · obtain ⟨p, rfl⟩ : ∃ p : Nat, a = p := ⟨a.toNat, by omega⟩
    cases hr : Enc.rd 9 0 0 (s.data.toList.drop p) with
    | none => exact .inl (rv_none hr)
    | some r =>
      obtain ⟨n, k⟩ := r
      obtain ⟨h1, h2⟩ := rd_bd _ _ _ _ _ _ hr (by decide)
      have h3 : (128 : Nat) ^ (0 + 9) = 9223372036854775808 := by decide
      have h4 : (s.data.toList.drop p).length = s.size - p := by simp
      exact .inr ⟨n, p + k, rv_some (by omega) hr, by omega, by omega⟩
  · exact .inl (rv_out h)

def rs (s : ByteArray) (a : Int) : ByteArray × Int :=
  if (rv s a).2 < 0 ∨ (s.size : Int) - (rv s a).2 < (rv s a).1 then (⟨#[]⟩, -1) else (s.extract (rv s a).2.toNat ((rv s a).2.toNat + (rv s a).1.toNat), (rv s a).2 + (rv s a).1)
theorem app_str (a : List UInt8) (s : ByteArray) : (⟨a.toArray⟩ : ByteArray) ++ s = ⟨(a ++ s.data.toList).toArray⟩ := by
  apply ByteArray.ext
  simp
theorem ret_bytes {a b : ByteArray} (h : a = b) : Ending.returned (.string a) = .returned (.string b) := by rw [h]
theorem var_len (n : Int) : (varText n).length ≤ 10 := by
  unfold varText
  split
  · simp
  · exact (Enc.varF_len 9 _).1
theorem slice_lh {P : Program} {t : TypeId} (w : World) (s : ByteArray) (m n : Nat) (h : P.underlying t = some .string) (hb : m + n ≤ s.size) :
    (Instr.slice t (.string s) (some (.int .i64 (m : Int))) (some (.int .i64 ((m : Int) + (n : Int)))) none).run P w = .ok (.string (s.extract m (m + n))) w := by
  have := run_slice_string (P := P) (w := w) t s .i64 .i64 (m : Int) ((m : Int) + (n : Int)) h (by omega) (by omega) (by omega)
  rw [this]
  rfl
theorem ret_sn {s : ByteArray} {n : Int} {r : ByteArray × Int} (h : r = (s, n)) : Ending.returned (.tuple #[.string s, .int .i64 n]) = .returned (.tuple #[.string r.1, .int .i64 r.2]) := by rw [h]

theorem s_VarSize (n : Int) (hn : -9223372036854775808 ≤ n ∧ n ≤ 9223372036854775807) (w : World) : Calls Try.prog 28 #[.int .i64 n] w fun e w' => e = .returned (.int .i64 ((varText n).length : Int)) ∧ Below w.heap.size w w' := by
  go_enter Try.func28, Try.ntmps28
  go_wp2_with (go_at_call 20; refine (s_VarText _ hn _).mono ?_; rintro e w1 ⟨rfl, hb⟩)
  go_ret
  exact ⟨by simp, hb⟩

theorem s_ShortText (s : ByteArray) (hs : s.size ≤ 2147483648) (w : World) : Calls Try.prog 26 #[.string s] w fun e w' => e = .returned (.string ⟨(varText (s.size : Int) ++ s.data.toList).toArray⟩) ∧ Below w.heap.size w w' := by
  have hvl : (varText (s.size : Int)).length + s.size ≤ 9223372036854775807 := by have := var_len (s.size : Int); omega
  go_enter Try.func26, Try.ntmps26
  go_wp2_with (go_at_call 20; refine (s_VarText _ (by omega) _).mono ?_; rintro e w1 ⟨rfl, hb⟩)
  go_ret
  exact ⟨ret_bytes (app_str _ _), hb⟩

theorem s_ReadShort (s : ByteArray) (a : Int) (hs : s.size ≤ 2147483648) (w : World) : Calls Try.prog 32 #[.string s, .int .i64 a] w fun e w' => e = .returned (.tuple #[.string (rs s a).1, .int .i64 (rs s a).2]) ∧ w = w' := by
  rcases rv_cases s a with h | ⟨n, m, h, hm, hn⟩
  · have HR : Hid (rs s a = (⟨#[]⟩, -1)) := by unfold Hid rs; rw [h]; exact if_pos (.inl (by decide))
    have HV := Lib.hid h
    clear h
    go_enter Try.func32, Try.ntmps32
    go_wp2_with (go_at_call 30; refine (s_ReadVar _ _ hs _).mono ?_; rintro e w' ⟨rfl, rfl⟩; rw [HV.out])
    go_ret2
    exact ⟨ret_sn HR.out, rfl⟩
  · have h0 : ¬ (m : Int) < 0 := by omega
    by_cases hg : (s.size : Int) - (m : Int) < (n : Int)
    · have HR : Hid (rs s a = (⟨#[]⟩, -1)) := by unfold Hid rs; rw [h]; exact if_pos (.inr hg)
      have HV := Lib.hid h
      clear h
      go_enter Try.func32, Try.ntmps32
      go_wp2_with (go_at_call 30; refine (s_ReadVar _ _ hs _).mono ?_; rintro e w' ⟨rfl, rfl⟩; rw [HV.out])
      go_ret2
      exact ⟨ret_sn HR.out, rfl⟩
    · have HR : Hid (rs s a = (s.extract m (m + n), (m : Int) + (n : Int))) := by
        unfold Hid rs; rw [h]; rw [if_neg (by simp; omega)]; rfl
      have HV := Lib.hid h
      have hsl := slice_lh (P := Try.prog) (t := 9) w s m n Try.underlying9 (by omega)
      clear h
      go_enter Try.func32, Try.ntmps32
      go_wp2_with (go_at_call 30; refine (s_ReadVar _ _ hs _).mono ?_; rintro e w' ⟨rfl, rfl⟩; rw [HV.out])
      go_ret2
      exact ⟨ret_sn HR.out, rfl⟩


theorem i_VarSize (n : Int) (hn : -9223372036854775808 ≤ n ∧ n ≤ 9223372036854775807) (w : World) : Calls Try.prog 29 #[.int .i64 n] w fun e w' => e = .returned (.int .i64 ((varText n).length : Int)) ∧ Below w.heap.size w w' := by
  go_enter Try.func29, Try.ntmps29
  go_wp2_with (go_at_call 21; refine (i_VarText _ hn _).mono ?_; rintro e w1 ⟨rfl, hb⟩)
  go_ret
  exact ⟨by simp, hb⟩

theorem i_ShortText (s : ByteArray) (hs : s.size ≤ 2147483648) (w : World) : Calls Try.prog 27 #[.string s] w fun e w' => e = .returned (.string ⟨(varText (s.size : Int) ++ s.data.toList).toArray⟩) ∧ Below w.heap.size w w' := by
  have hvl : (varText (s.size : Int)).length + s.size ≤ 9223372036854775807 := by have := var_len (s.size : Int); omega
  go_enter Try.func27, Try.ntmps27
  go_wp2_with (go_at_call 21; refine (i_VarText _ (by omega) _).mono ?_; rintro e w1 ⟨rfl, hb⟩)
  go_ret
  exact ⟨ret_bytes (app_str _ _), hb⟩

theorem i_ReadShort (s : ByteArray) (a : Int) (hs : s.size ≤ 2147483648) (w : World) : Calls Try.prog 33 #[.string s, .int .i64 a] w fun e w' => e = .returned (.tuple #[.string (rs s a).1, .int .i64 (rs s a).2]) ∧ w = w' := by
  rcases rv_cases s a with h | ⟨n, m, h, hm, hn⟩
  · have HR : Hid (rs s a = (⟨#[]⟩, -1)) := by unfold Hid rs; rw [h]; exact if_pos (.inl (by decide))
    have HV := Lib.hid h
    clear h
    go_enter Try.func33, Try.ntmps33
    go_wp2_with (go_at_call 31; refine (i_ReadVar _ _ hs _).mono ?_; rintro e w' ⟨rfl, rfl⟩; rw [HV.out])
    go_ret2
    exact ⟨ret_sn HR.out, rfl⟩
  · have h0 : ¬ (m : Int) < 0 := by omega
    by_cases hg : (s.size : Int) - (m : Int) < (n : Int)
    · have HR : Hid (rs s a = (⟨#[]⟩, -1)) := by unfold Hid rs; rw [h]; exact if_pos (.inr hg)
      have HV := Lib.hid h
      clear h
      go_enter Try.func33, Try.ntmps33
      go_wp2_with (go_at_call 31; refine (i_ReadVar _ _ hs _).mono ?_; rintro e w' ⟨rfl, rfl⟩; rw [HV.out])
      go_ret2
      exact ⟨ret_sn HR.out, rfl⟩
    · have HR : Hid (rs s a = (s.extract m (m + n), (m : Int) + (n : Int))) := by
        unfold Hid rs; rw [h]; rw [if_neg (by simp; omega)]; rfl
      have HV := Lib.hid h
      have hsl := slice_lh (P := Try.prog) (t := 9) w s m n Try.underlying9 (by omega)
      clear h
      go_enter Try.func33, Try.ntmps33
      go_wp2_with (go_at_call 31; refine (i_ReadVar _ _ hs _).mono ?_; rintro e w' ⟨rfl, rfl⟩; rw [HV.out])
      go_ret2
      exact ⟨ret_sn HR.out, rfl⟩


theorem walk_FnExactVarText (a : Int) (w : World) (ha : (Lit.int .i64 a).wf = true) : Calls Try.prog 5 #[.int .i64 a] w fun e w' => e = .returned (.bool true) ∧ Below w.heap.size w w' := by
  have ba := bounds_i64 ha
  go_enter Try.func5, Try.ntmps5
  go_wp2_with (first | (go_at_call 20; refine (s_VarText _ ba _).mono ?_; rintro e w1 ⟨rfl, hb1⟩) | (go_at_call 21; refine (i_VarText _ ba _).mono ?_; rintro e w2 ⟨rfl, hb2⟩))
  go_ret
  exact ⟨rfl, hb1.trans (hb2.mono hb1.size)⟩

theorem walk_FnExactVarSize (a : Int) (w : World) (ha : (Lit.int .i64 a).wf = true) : Calls Try.prog 9 #[.int .i64 a] w fun e w' => e = .returned (.bool true) ∧ Below w.heap.size w w' := by
  have ba := bounds_i64 ha
  go_enter Try.func9, Try.ntmps9
  go_wp2_with (first | (go_at_call 28; refine (s_VarSize _ ba _).mono ?_; rintro e w1 ⟨rfl, hb1⟩) | (go_at_call 29; refine (i_VarSize _ ba _).mono ?_; rintro e w2 ⟨rfl, hb2⟩))
  go_ret
  exact ⟨rfl, hb1.trans (hb2.mono hb1.size)⟩

theorem walk_FnExactShortText (a : ByteArray) (w : World) (_ha : a.size ≤ maxLen) : Calls Try.prog 8 #[.string a] w fun e w' => e = .returned (.bool true) ∧ Below w.heap.size w w' := by
  by_cases hl : (1048576 : Int) < (a.size : Int)
  · go_enter Try.func8, Try.ntmps8
    go_wp2
    go_ret
    exact ⟨rfl, Below.refl _ _⟩
  · go_enter Try.func8, Try.ntmps8
    go_wp2_with (first | (go_at_call 26; refine (s_ShortText _ (by omega) _).mono ?_; rintro e w1 ⟨rfl, hb1⟩) | (go_at_call 27; refine (i_ShortText _ (by omega) _).mono ?_; rintro e w2 ⟨rfl, hb2⟩))
    go_ret
    exact ⟨rfl, hb1.trans (hb2.mono hb1.size)⟩


theorem walk_FnExactReadVar (a : ByteArray) (p : Int) (w : World) (_ha : a.size ≤ maxLen) (_hp : (Lit.int .i64 p).wf = true) : Calls Try.prog 10 #[.string a, .int .i64 p] w fun e w' => e = .returned (.bool true) ∧ Below w.heap.size w w' := by
  by_cases hl : (1048576 : Int) < (a.size : Int)
  · go_enter Try.func10, Try.ntmps10
    go_wp2
    go_ret
    exact ⟨rfl, Below.refl _ _⟩
  · go_enter Try.func10, Try.ntmps10
    go_wp2_with (first | (go_at_call 30; refine (s_ReadVar _ _ (by omega) _).mono ?_; rintro e w' ⟨rfl, rfl⟩) | (go_at_call 31; refine (i_ReadVar _ _ (by omega) _).mono ?_; rintro e w' ⟨rfl, rfl⟩))
    go_ret
    exact ⟨rfl, Below.refl _ _⟩


theorem walk_FnExactReadShort (a : ByteArray) (p : Int) (w : World) (_ha : a.size ≤ maxLen) (_hp : (Lit.int .i64 p).wf = true) : Calls Try.prog 11 #[.string a, .int .i64 p] w fun e w' => e = .returned (.bool true) ∧ Below w.heap.size w w' := by
  by_cases hl : (1048576 : Int) < (a.size : Int)
  · go_enter Try.func11, Try.ntmps11
    go_wp2
    go_ret
    exact ⟨rfl, Below.refl _ _⟩
  · go_enter Try.func11, Try.ntmps11
    go_wp2_with (first | (go_at_call 32; refine (s_ReadShort _ _ (by omega) _).mono ?_; rintro e w' ⟨rfl, rfl⟩) | (go_at_call 33; refine (i_ReadShort _ _ (by omega) _).mono ?_; rintro e w' ⟨rfl, rfl⟩))
    go_ret
    exact ⟨rfl, Below.refl _ _⟩

end Go.Proofs.Ytephpdpfaloamaa
