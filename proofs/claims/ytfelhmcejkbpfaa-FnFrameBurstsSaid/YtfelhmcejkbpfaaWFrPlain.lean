/-
  What is read of a frame's own text, of a cut one and of a spoilt one. No conditions.
-/
import Derived.Test.YtfelhmcejkbpfaaWFrLaws
import Derived.Test.YtfelhmcejkbpfaaWBursts
import Derived.Lib.Strings
namespace Go.Proofs.Ytfelhmcejkbpfaa
open Go.ChangeShapes Go.WideShapes Go.ChangeAt Go.RowKit

theorem fr_parts {v : Int} {p : ByteArray} (h : frOk v p = true) : 1 ≤ v ∧ v ≤ 9 ∧ p.size ≤ 19980 := by
  unfold frOk inB at h
  simp at h
  omega
theorem fr_mk {v : Int} {p : ByteArray} (h1 : 1 ≤ v) (h2 : v ≤ 9) (h3 : p.size ≤ 19980) : frOk v p = true := by
  unfold frOk inB
  simp
  omega
theorem body_len (v : Int) (p : ByteArray) : (frBody v p).length = 10 + p.size := by
  unfold frBody
  simp [Crc.fix_length]
  omega
theorem sealed_len (l : List UInt8) : (Crc.sealedL l).length = l.length + 4 := by
  unfold Crc.sealedL
  rw [List.length_append, Crc.fix_length]
/-- A text that begins as a frame's body does (all but what lies behind the length). -/
theorem rd_head (v : Int) (n : Nat) (r : List UInt8) (s : ByteArray) (hv : 1 ≤ v ∧ v ≤ 9) (hn : n ≤ 19980)
    (h : s.data.toList = 66 :: 69 :: 82 :: 84 :: 72 :: UInt8.ofNat v.toNat :: (Crc.fix 4 n ++ r)) :
    s.data.toList.take 5 = magic ∧ frVer s = v.toNat ∧ rfN s 6 4 = n := by
  refine ⟨by rw [h]; rfl, ?_, ?_⟩
  · unfold frVer
    rw [h]
    show (UInt8.ofNat v.toNat).toNat = v.toNat
    rw [UInt8.toNat_ofNat']
    omega
  · unfold rfN
    rw [h]
    show Crc.num (List.take 4 (Crc.fix 4 n ++ r)) = n
    have e : List.take 4 (Crc.fix 4 n ++ r) = Crc.fix 4 n := by
      have := List.take_left (l₁ := Crc.fix 4 n) (l₂ := r)
      rwa [Crc.fix_length] at this
    rw [e, Crc.num_fix, Nat.mod_eq_of_lt (by omega)]
theorem text_list {v : Int} {p : ByteArray} (h : frOk v p = true) : (frText v p).data.toList = Crc.sealedL (frBody v p) := by
  unfold frText
  rw [if_pos h]
theorem text_size {v : Int} {p : ByteArray} (h : frOk v p = true) : (frText v p).size = 14 + p.size := by
  rw [← list_size, text_list h, sealed_len, body_len]
  omega
theorem text_not {v : Int} {p : ByteArray} (h : frOk v p = false) : frText v p = ⟨#[]⟩ := if_neg (by rw [h]; decide)
theorem text_shape {v : Int} {p : ByteArray} (h : frOk v p = true) : (frText v p).data.toList = 66 :: 69 :: 82 :: 84 :: 72 :: UInt8.ofNat v.toNat :: (Crc.fix 4 p.size ++ (p.data.toList ++ Crc.fix 4 (Crc.sumOf (frBody v p)))) := by
  rw [text_list h]
  unfold Crc.sealedL
  generalize Crc.fix 4 (Crc.sumOf (frBody v p)) = q
  unfold frBody
  simp
theorem rd_text {v : Int} {p : ByteArray} (h : frOk v p = true) : rdCode (frText v p) = 0 ∧ rdFr (frText v p) = (v, p) := by
  obtain ⟨h1, h2, h3⟩ := fr_parts h
  obtain ⟨e1, e2, e3⟩ := rd_head v p.size _ (frText v p) ⟨h1, h2⟩ h3 (text_shape h)
  have hs := text_size h
  have ht : (frText v p).data.toList.take ((frText v p).size - 4) = frBody v p := by
    rw [text_list h, hs]
    unfold Crc.sealedL
    rw [show 14 + p.size - 4 = (frBody v p).length by rw [body_len]; omega]
    exact List.take_left
  have hc : rdCode (frText v p) = 0 := by
    unfold rdCode
    rw [if_neg (by omega), if_neg (not_not_intro e1), if_neg (not_not_intro (by rw [e2]; omega)), e3, if_neg (by omega), if_neg (not_not_intro (by rw [ht, text_list h]))]
  refine ⟨hc, ?_⟩
  unfold rdFr
  rw [if_pos hc, e2]
  refine Prod.ext (by show ((v.toNat : Nat) : Int) = v; omega) ?_
  apply ByteArray.ext
  apply Array.toList_inj.1
  rw [Lib.extract_data, hs, text_shape h]
  generalize Crc.fix 4 (Crc.sumOf (frBody v p)) = q
  show List.take (14 + p.size - 4 - 10) (List.drop 4 (Crc.fix 4 p.size ++ (p.data.toList ++ q))) = p.data.toList
  have e : List.drop 4 (Crc.fix 4 p.size ++ (p.data.toList ++ q)) = p.data.toList ++ q := by
    have := List.drop_left (l₁ := Crc.fix 4 p.size) (l₂ := p.data.toList ++ q)
    rwa [Crc.fix_length] at this
  rw [e, show 14 + p.size - 4 - 10 = p.data.toList.length by rw [list_size]; omega]
  exact List.take_left
theorem rd_cut {v : Int} {p t : ByteArray} (h : frOk v p = true) (ht : t = (frText v p).extract 0 (13 + p.size)) : rdCode t ≠ 0 := by
  obtain ⟨h1, h2, h3⟩ := fr_parts h
  have hs := text_size h
  have hts : t.size = 13 + p.size := by rw [ht, ext_size _ _ (by omega)]
  by_cases h0 : p.size = 0
  · have : rdCode t = 1 := if_pos (by omega)
    rw [this]
    decide
  · have hl : t.data.toList = 66 :: 69 :: 82 :: 84 :: 72 :: UInt8.ofNat v.toNat :: (Crc.fix 4 p.size ++ (p.data.toList ++ Crc.fix 4 (Crc.sumOf (frBody v p))).take (3 + p.size)) := by
      rw [ht, ext_to, text_shape h, show 13 + p.size = (3 + p.size) + 4 + 1 + 1 + 1 + 1 + 1 + 1 by omega]
      simp only [List.take_succ_cons]
      rw [List.take_append, Crc.fix_length, List.take_of_length_le (by rw [Crc.fix_length]; omega), Nat.add_sub_cancel]
    obtain ⟨e1, e2, e3⟩ := rd_head v p.size _ t ⟨h1, h2⟩ h3 hl
    have : rdCode t = 4 := by
      unfold rdCode
      rw [if_neg (by omega), if_neg (not_not_intro e1), if_neg (not_not_intro (by rw [e2]; omega)), e3, if_pos (by omega)]
    rw [this]
    decide
theorem rd_burst {v : Int} {p : ByteArray} (h : frOk v p = true) (b k : Nat) (hb : b ≤ 4294967295) (hodd : b % 2 = 1) (hk : k < 8 * (14 + p.size)) :
    rdCode ⟨(flipV (frText v p) (k : Int) (b : Int)).toArray⟩ ≠ 0 := by
  intro hc
  have hl := text_list h
  have hf : flipV (frText v p) (k : Int) (b : Int) = Crc.flip (Crc.sealedL (frBody v p)) (b * 2 ^ k) := by
    unfold flipV
    rw [if_pos ⟨by omega, by omega, by omega⟩, hl]
    rfl
  rw [hf] at hc
  unfold rdCode at hc
  split at hc
  · omega
  split at hc
  · omega
  split at hc
  · omega
  split at hc
  · omega
  split at hc
  · omega
  · rename_i hq
    rw [Decidable.not_not, mk_data] at hq
    exact Crc.burst (frBody v p) _ b k (by omega) hodd (by rw [sealed_len, body_len]; omega) hq.symm
theorem rd_zero {s : ByteArray} (h : rdCode s ≠ 0) : rdFr s = (0, ⟨#[]⟩) := if_neg h
theorem re_text {v u : Int} {p : ByteArray} (h : frOk v p = true) : reFr (frText v p) u = frText u p := by
  unfold reFr
  rw [if_pos (rd_text h).1, (rd_text h).2]
end Go.Proofs.Ytfelhmcejkbpfaa
