/-
  ReadFrame of impl; what is read of a text as of a frame. No conditions.
-/
import Derived.Test.YtfelhmcejkbpfaaWFrame
import Derived.Test.YtfelhmcejkbpfaaWSeal
import Derived.Test.YtfelhmcejkbpfaaWRF
namespace Go.Proofs.Ytfelhmcejkbpfaa
open Go.ChangeShapes Go.WideShapes Go.ChangeAt Go.RowKit

def magic : List UInt8 := [66, 69, 82, 84, 72]
def frVer (s : ByteArray) : Nat := (s.data.toList.getD 5 0).toNat
def rdCode (s : ByteArray) : Nat :=
  if s.size < 14 then 1 else if s.data.toList.take 5 ≠ magic then 2 else if ¬ (1 ≤ frVer s ∧ frVer s ≤ 9) then 3
  else if rfN s 6 4 ≠ s.size - 14 ∨ 19980 < s.size - 14 then 4 else if Crc.sealedL (s.data.toList.take (s.size - 4)) ≠ s.data.toList then 5 else 0
def rdFr (s : ByteArray) : Int × ByteArray := if rdCode s = 0 then (((frVer s : Nat) : Int), s.extract 10 (s.size - 4)) else (0, ⟨#[]⟩)
theorem frVer_at (s : ByteArray) (h : 5 < s.size) : s[5].toNat = frVer s := by
  unfold frVer
  have h' : 5 < s.data.toList.length := by simpa using h
  simp [List.getD, List.getElem?_eq_getElem h']
  rfl
theorem pre_list (s : ByteArray) : (s.extract 0 5).toList = s.data.toList.take 5 := by
  rw [ByteArray.toList_eq, ext_to]

theorem has_prefix (s : ByteArray) (h : 14 ≤ s.size) (w : World) : Calls Try.prog 57 #[.string s, .string ⟨#[66, 69, 82, 84, 72]⟩] w fun e w' => e = .returned (.bool (s.data.toList.take 5 == magic)) ∧ w = w' := by
  have hp := pre_list s
  obtain ⟨x, hx⟩ : ∃ x, (s.data.toList.take 5 == magic) = x := ⟨_, rfl⟩
  have ht : ((s.extract 0 5).toList == [66, 69, 82, 84, 72]) = x := by rw [hp]; exact hx
  rw [hx]
  clear hp hx
  have h5 : (5 : Int) ≤ (s.size : Int) := by omega
  cases x
  all_goals
    go_enter Try.func57, Try.ntmps57
    go_wp2_with (go_enter Try.func61, Try.ntmps61)
    go_ret
    exact ⟨rfl, rfl⟩

theorem slice_mid {P : Program} {t : TypeId} (w : World) (s : ByteArray) (m n : Nat) (h : P.underlying t = some .string) (hb : m + n ≤ s.size) :
    (Instr.slice t (.string s) (some (.int .i64 (m : Int))) (some (.int .i64 ((m : Int) + (n : Int)))) none).run P w = .ok (.string (s.extract m (m + n))) w := by
  have := run_slice_string (P := P) (w := w) t s .i64 .i64 (m : Int) ((m : Int) + (n : Int)) h (by omega) (by omega) (by omega)
  rw [this]
  rfl
theorem rf4 {s : ByteArray} {a : Int} {p N : Nat} (ha : a = (p : Int)) (h : p + 4 ≤ s.size) (hN : rfN s p 4 = N) : Hid (rf s a 4 = ((N : Int), true)) := by
  subst ha hN
  exact if_pos ⟨by omega, by omega, by omega, by omega, rf_small s p 4 h (by omega)⟩
theorem ret_fr {v : Int} {p : ByteArray} {k : Int} {r : Int × ByteArray} {c : Nat} (h : r = (v, p)) (h2 : (c : Int) = k) : Ending.returned (.tuple #[.agg #[.int .i64 v, .string p], .int .i64 k]) = .returned (.tuple #[.agg #[.int .i64 r.1, .string r.2], .int .i64 (c : Int)]) := by rw [h, h2]
theorem rd_not {s : ByteArray} {k : Nat} (h : rdCode s = k) (hk : k ≠ 0) : Hid (rdFr s = (0, ⟨#[]⟩)) := if_neg (by rw [h]; exact hk)
theorem fix_eq (c : List UInt8) (z : Nat) (hc : c.length = 4) (hz : z < 2 ^ 32) : Crc.fix 4 z = c ↔ z = Crc.num c := by
  constructor
  · intro h
    rw [← h, Crc.num_fix, Nat.mod_eq_of_lt (by omega)]
  · intro h
    rw [h]
    have := Crc.fix_num c
    rw [hc] at this
    exact this
/-- The sealed text's test, number against number. -/
theorem seal_iff (s : ByteArray) (h : 14 ≤ s.size) : Crc.sealedL (s.data.toList.take (s.size - 4)) = s.data.toList ↔ Crc.sumOf (s.data.toList.take (s.size - 4)) = rfN s (s.size - 4) 4 := by
  have hl : (s.data.toList.drop (s.size - 4)).length = 4 := by simp; omega
  have ht : rfN s (s.size - 4) 4 = Crc.num (s.data.toList.drop (s.size - 4)) := by
    unfold rfN
    rw [List.take_of_length_le (by omega)]
  rw [ht, ← fix_eq _ _ hl (Crc.sumOf_lt _)]
  unfold Crc.sealedL
  constructor
  · intro h
    exact List.append_cancel_left (h.trans (List.take_append_drop _ _).symm)
  · intro h
    rw [h]
    exact List.take_append_drop _ _

set_option maxHeartbeats 1000000 in
theorem i_ReadFrame (s : ByteArray) (hs : s.size ≤ 2147483648) (w : World) : Calls Try.prog 40 #[.string s] w fun e w' => e = .returned (.tuple #[.agg #[.int .i64 (rdFr s).1, .string (rdFr s).2], .int .i64 ((rdCode s : Nat) : Int)]) ∧ Below w.heap.size w w' := by
  by_cases h1 : (s.size : Int) < 14
  · have hk : rdCode s = 1 := if_pos (by omega)
    have HR := rd_not hk (by decide)
    have HK := Lib.hid hk
    clear hk
    go_enter Try.func40, Try.ntmps40
    go_wp2_with fail
    (try simp only [Exit.inBlock, Exit.then])
    refine bodyPost_ret (v := .tuple #[.agg #[.int .i64 0, .string ⟨#[]⟩], .int .i64 1]) ?_ rfl ⟨ret_fr HR.out (by rw [HK.out]; rfl), by go_grown⟩
    simp [results, Try.results40, go_sem]
  · by_cases h2 : s.data.toList.take 5 = magic
    · have HP : Hid ((s.data.toList.take 5 == magic) = true) := by unfold Hid; rw [h2]; decide
      have hver := frVer_at s (by omega)
      obtain ⟨x, hx⟩ : ∃ x : Int, ((s[5]'(by omega)).toNat : Int) = x := ⟨_, rfl⟩
      have hxV : ((frVer s : Nat) : Int) = x := by rw [← hver, hx]
      have h5 : (5 : Int) < (s.size : Int) := by omega
      have hxb := rf_byte s 5 (by omega)
      rw [hx] at hxb
      obtain ⟨hx0, hx1⟩ := hxb
      by_cases h3 : 1 ≤ x ∧ x ≤ 9
      · have HI : Hid (inB x 1 9 = true) := inB_t h3
        have h3' : 1 ≤ frVer s ∧ frVer s ≤ 9 := by omega
        obtain ⟨N, hN⟩ : ∃ N, rfN s 6 4 = N := ⟨_, rfl⟩
        have HF1 : Hid (rf s 6 4 = ((N : Int), true)) := rf4 (p := 6) rfl (by omega) hN
        have hNlt := rf_lt s 6 4 (by omega)
        rw [hN] at hNlt
        by_cases h4 : N ≠ s.size - 14 ∨ 19980 < s.size - 14
        · have hk : rdCode s = 4 := by
            unfold rdCode
            rw [if_neg (by omega), if_neg (not_not_intro h2), if_neg (not_not_intro h3'), hN, if_pos h4]
          have HR := rd_not hk (by decide)
          have HK := Lib.hid hk
          clear hk h2 hver hxV h3' hN
          have h4' : (((N : Int) != (s.size : Int) - 14) = true) ∨ ((((N : Int) != (s.size : Int) - 14) = false) ∧ (19980 : Int) < (N : Int)) := by
            by_cases hq : (N : Int) = (s.size : Int) - 14
            · exact .inr ⟨by rw [hq]; simp, by omega⟩
            · exact .inl (bne_iff_ne.2 hq)
          clear h4
          rcases h4' with h4 | ⟨h4, h6⟩
          · go_enter Try.func40, Try.ntmps40
            go_wp2_with (first | (go_at_call 57; refine (has_prefix s (by omega) _).mono ?_; rintro e w' ⟨rfl, rfl⟩; rw [HP.out]) | (go_at_call 48; refine (i_within _ _ _ _).mono ?_; rintro e w' ⟨rfl, rfl⟩; rw [HI.out]) | (go_at_call 58; refine (i_ReadFixed s 6 4 hs (by omega) _).mono ?_; rintro e w' ⟨rfl, rfl⟩; rw [HF1.out]))
            (try simp only [Exit.inBlock, Exit.then])
            refine bodyPost_ret (v := .tuple #[.agg #[.int .i64 0, .string ⟨#[]⟩], .int .i64 4]) ?_ rfl ⟨ret_fr HR.out (by rw [HK.out]; rfl), by go_grown⟩
            simp [results, Try.results40, go_sem]
          · go_enter Try.func40, Try.ntmps40
            go_wp2_with (first | (go_at_call 57; refine (has_prefix s (by omega) _).mono ?_; rintro e w' ⟨rfl, rfl⟩; rw [HP.out]) | (go_at_call 48; refine (i_within _ _ _ _).mono ?_; rintro e w' ⟨rfl, rfl⟩; rw [HI.out]) | (go_at_call 58; refine (i_ReadFixed s 6 4 hs (by omega) _).mono ?_; rintro e w' ⟨rfl, rfl⟩; rw [HF1.out]))
            (try simp only [Exit.inBlock, Exit.then])
            refine bodyPost_ret (v := .tuple #[.agg #[.int .i64 0, .string ⟨#[]⟩], .int .i64 4]) ?_ rfl ⟨ret_fr HR.out (by rw [HK.out]; rfl), by go_grown⟩
            simp [results, Try.results40, go_sem]
        · obtain ⟨Y, hY⟩ : ∃ Y, Crc.sumOf (s.data.toList.take (s.size - 4)) = Y := ⟨_, rfl⟩
          obtain ⟨Z, hZ⟩ : ∃ Z, rfN s (s.size - 4) 4 = Z := ⟨_, rfl⟩
          have hiff := seal_iff s (by omega)
          rw [hY, hZ] at hiff
          have hsz : s.size = N + 14 := by omega
          have HF2 : Hid (rf s (10 + (N : Int)) 4 = ((Z : Int), true)) := rf4 (p := s.size - 4) (by omega) (by omega) hZ
          have HSum0 : ∀ w, Calls Try.prog 22 #[.string (s.extract 0 (s.size - 4))] w fun e w' => e = .returned (.int .i64 (Y : Int)) ∧ w = w' := fun w => by
            have := i_SumOf (s.extract 0 (s.size - 4)) (by rw [ext_size _ _ (by omega)]; omega) w
            rw [ext_to, hY] at this
            exact this
          obtain ⟨U0, hU⟩ : ∃ U0, s.extract 0 (s.size - 4) = U0 := ⟨_, rfl⟩
          rw [hU] at HSum0
          have HSum := Lib.hid HSum0
          clear HSum0
          have hs2 : ∀ w, (Instr.slice 9 (.string s) none (some (.int .i64 (10 + (N : Int)))) none).run Try.prog w = .ok (.string U0) w := fun w => by
            rw [run_slice_string_to_if w 9 s .i64 _ Try.underlying9, if_pos ⟨by omega, by omega⟩, show (10 + (N : Int)).toNat = s.size - 4 by omega, hU]
          by_cases h6 : Y = Z
          · have hk : rdCode s = 0 := by
              unfold rdCode
              rw [if_neg (by omega), if_neg (not_not_intro h2), if_neg (not_not_intro h3'), hN, if_neg h4, if_neg (not_not_intro (hiff.2 h6))]
            obtain ⟨PP, hPP⟩ : ∃ PP, s.extract 10 (s.size - 4) = PP := ⟨_, rfl⟩
            have HR : Hid (rdFr s = (x, PP)) := by
              unfold Hid rdFr
              rw [if_pos hk, hxV, hPP]
            have hs3 : ∀ w, (Instr.slice 9 (.string s) (some (.int .i64 10)) (some (.int .i64 (10 + (N : Int)))) none).run Try.prog w = .ok (.string PP) w := fun w => by
              have := slice_mid (P := Try.prog) (t := 9) w s 10 N Try.underlying9 (by omega)
              rw [show 10 + N = s.size - 4 by omega, hPP] at this
              exact this
            have HK := Lib.hid hk
            have h7 : ¬ (19980 : Int) < (N : Int) := by omega
            subst h6
            clear hk h2 hver hxV h3' hN hiff hU h4 hY hZ hPP
            go_enter Try.func40, Try.ntmps40
            go_wp2_with (first | (go_at_call 57; refine (has_prefix s (by omega) _).mono ?_; rintro e w' ⟨rfl, rfl⟩; rw [HP.out]) | (go_at_call 48; refine (i_within _ _ _ _).mono ?_; rintro e w' ⟨rfl, rfl⟩; rw [HI.out]) | (go_at_call 58; refine (i_ReadFixed s _ 4 hs (by omega) _).mono ?_; rintro e w' ⟨rfl, rfl⟩; first | rw [HF1.out] | rw [HF2.out]) | (go_at_call 22; refine (HSum.out _).mono ?_; rintro e w' ⟨rfl, rfl⟩))
            (try simp only [Exit.inBlock, Exit.then])
            refine bodyPost_ret (v := .tuple #[.agg #[.int .i64 x, .string PP], .int .i64 0]) ?_ rfl ⟨ret_fr HR.out (by rw [HK.out]; rfl), by go_grown⟩
            simp [results, Try.results40, go_sem]
          · have hk : rdCode s = 5 := by
              unfold rdCode
              rw [if_neg (by omega), if_neg (not_not_intro h2), if_neg (not_not_intro h3'), hN, if_neg h4, if_pos (fun hc => h6 (hiff.1 hc))]
            have HR := rd_not hk (by decide)
            have HK := Lib.hid hk
            have h7 : ¬ (19980 : Int) < (N : Int) := by omega
            have h8 : ((Z : Int) != (Y : Int)) = true := bne_iff_ne.2 (by omega)
            clear hk h2 hver hxV h3' hN hiff hU h4 hY hZ h6
            go_enter Try.func40, Try.ntmps40
            go_wp2_with (first | (go_at_call 57; refine (has_prefix s (by omega) _).mono ?_; rintro e w' ⟨rfl, rfl⟩; rw [HP.out]) | (go_at_call 48; refine (i_within _ _ _ _).mono ?_; rintro e w' ⟨rfl, rfl⟩; rw [HI.out]) | (go_at_call 58; refine (i_ReadFixed s _ 4 hs (by omega) _).mono ?_; rintro e w' ⟨rfl, rfl⟩; first | rw [HF1.out] | rw [HF2.out]) | (go_at_call 22; refine (HSum.out _).mono ?_; rintro e w' ⟨rfl, rfl⟩))
            (try simp only [Exit.inBlock, Exit.then])
            refine bodyPost_ret (v := .tuple #[.agg #[.int .i64 0, .string ⟨#[]⟩], .int .i64 5]) ?_ rfl ⟨ret_fr HR.out (by rw [HK.out]; rfl), by go_grown⟩
            simp [results, Try.results40, go_sem]
      · have HI : Hid (inB x 1 9 = false) := inB_f h3
        have hk : rdCode s = 3 := by
          unfold rdCode
          rw [if_neg (by omega), if_neg (not_not_intro h2), if_pos (by omega)]
        have HR := rd_not hk (by decide)
        have HK := Lib.hid hk
        clear hk h2 hver hxV h3
        go_enter Try.func40, Try.ntmps40
        go_wp2_with (first | (go_at_call 57; refine (has_prefix s (by omega) _).mono ?_; rintro e w' ⟨rfl, rfl⟩; rw [HP.out]) | (go_at_call 48; refine (i_within _ _ _ _).mono ?_; rintro e w' ⟨rfl, rfl⟩; rw [HI.out]))
        (try simp only [Exit.inBlock, Exit.then])
        refine bodyPost_ret (v := .tuple #[.agg #[.int .i64 0, .string ⟨#[]⟩], .int .i64 3]) ?_ rfl ⟨ret_fr HR.out (by rw [HK.out]; rfl), by go_grown⟩
        simp [results, Try.results40, go_sem]
    · have hk : rdCode s = 2 := by
        unfold rdCode
        rw [if_neg (by omega), if_pos h2]
      have HR := rd_not hk (by decide)
      have HK := Lib.hid hk
      have HP : Hid ((s.data.toList.take 5 == magic) = false) := beq_eq_false_iff_ne.2 h2
      clear hk h2
      go_enter Try.func40, Try.ntmps40
      go_wp2_with (go_at_call 57; refine (has_prefix s (by omega) _).mono ?_; rintro e w' ⟨rfl, rfl⟩; rw [HP.out])
      (try simp only [Exit.inBlock, Exit.then])
      refine bodyPost_ret (v := .tuple #[.agg #[.int .i64 0, .string ⟨#[]⟩], .int .i64 2]) ?_ rfl ⟨ret_fr HR.out (by rw [HK.out]; rfl), by go_grown⟩
      simp [results, Try.results40, go_sem]
end Go.Proofs.Ytfelhmcejkbpfaa
