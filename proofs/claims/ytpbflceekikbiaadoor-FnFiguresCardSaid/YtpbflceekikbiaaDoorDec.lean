/-
  Decimal numerals: what they spell, and which texts are numerals of an int. Plain lists and numbers. No conditions.
-/
import Derived.Lib.AtoiAll
import Derived.Lib.ItoaMem
namespace Go.Proofs.YtpbflceekikbiaaDoor.Dec
open Go.Lib

def big : Nat := 9223372036854775807
def isDig (c : UInt8) : Prop := 48 ≤ c.toNat ∧ c.toNat ≤ 57
def valF (a : Nat) (l : List UInt8) : Nat := l.foldl (fun a c => 10 * a + (c.toNat - 48)) a
def valL (l : List UInt8) : Nat := valF 0 l

theorem valF_cons (a : Nat) (c : UInt8) (l : List UInt8) : valF a (c :: l) = valF (10 * a + (c.toNat - 48)) l := by
  unfold valF
  rw [List.foldl_cons]
theorem valF_append (a : Nat) (l m : List UInt8) : valF a (l ++ m) = valF (valF a l) m := by unfold valF; rw [List.foldl_append]
theorem valF_ge (l : List UInt8) : ∀ a : Nat, a ≤ valF a l := by
  induction l with
  | nil => exact fun a => Nat.le_refl a
  | cons c l ih =>
    intro a
    rw [valF_cons]
    have := ih (10 * a + (c.toNat - 48))
    omega
theorem valL_snoc (l : List UInt8) (c : UInt8) : valL (l ++ [c]) = 10 * valL l + (c.toNat - 48) := by
  unfold valL
  rw [valF_append, valF_cons]
  unfold valF
  rw [List.foldl_nil]
theorem toNat_fig {d : Nat} (h : d < 10) : (UInt8.ofNat (48 + d)).toNat = 48 + d := by
  rw [UInt8.toNat_ofNat']
  omega
theorem dec_small {n : Nat} (h : n < 10) : decDigits n = [UInt8.ofNat (48 + n)] := decDigits_one h
theorem dec_step {n : Nat} (h : ¬ n < 10) : decDigits n = decDigits (n / 10) ++ [UInt8.ofNat (48 + n % 10)] := by
  rw [decDigits, dif_neg h]
theorem dec_dig (n : Nat) : ∀ c ∈ decDigits n, isDig c := by
  induction n using Nat.strongRecOn with
  | _ n ih =>
    by_cases h : n < 10
    · rw [dec_small h]
      intro c hc
      simp only [List.mem_singleton] at hc
      subst hc
      unfold isDig
      rw [toNat_fig h]
      omega
    · rw [dec_step h]
      intro c hc
      rcases List.mem_append.1 hc with hc | hc
      · exact ih (n / 10) (by omega) c hc
      · simp only [List.mem_singleton] at hc
        subst hc
        unfold isDig
        rw [toNat_fig (by omega)]
        omega
theorem val_dec (n : Nat) : valL (decDigits n) = n := by
  induction n using Nat.strongRecOn with
  | _ n ih =>
    by_cases h : n < 10
    · rw [dec_small h]
      have e : valL [UInt8.ofNat (48 + n)] = 10 * 0 + ((UInt8.ofNat (48 + n)).toNat - 48) := by
        unfold valL
        rw [valF_cons]
        unfold valF
        rw [List.foldl_nil]
      rw [e, toNat_fig h]
      omega
    · rw [dec_step h, valL_snoc, ih (n / 10) (by omega), toNat_fig (by omega)]
      omega
theorem dec_ne (n : Nat) : decDigits n ≠ [] := by
  by_cases h : n < 10
  · rw [dec_small h]; simp
  · rw [dec_step h]; simp
theorem dec_len : ∀ (k n : Nat), n < 10 ^ (k + 1) → (decDigits n).length ≤ k + 1
  | 0, n, h => by rw [dec_small (by simpa using h)]; simp
  | k + 1, n, h => by
    by_cases h0 : n < 10
    · rw [dec_small h0]; simp
    · rw [dec_step h0, List.length_append]
      have := dec_len k (n / 10) (by rw [Nat.pow_succ] at h; omega)
      simp
      omega
theorem dec_head {n : Nat} (h : n ≠ 0) : ∃ c r, decDigits n = c :: r ∧ 49 ≤ c.toNat ∧ c.toNat ≤ 57 := by
  induction n using Nat.strongRecOn with
  | _ n ih =>
    by_cases h0 : n < 10
    · exact ⟨_, [], dec_small h0, by rw [toNat_fig h0]; omega, by rw [toNat_fig h0]; omega⟩
    · obtain ⟨c, r, e, h1, h2⟩ := ih (n / 10) (by omega) (by omega)
      exact ⟨c, r ++ [UInt8.ofNat (48 + n % 10)], by rw [dec_step h0, e]; rfl, h1, h2⟩

theorem parse_ok : ∀ (l : List UInt8) (a : Nat), (∀ c ∈ l, isDig c) → valF a l < 18446744073709551616 → parseUint10 a l = .ok (valF a l)
  | [], a, _, _ => rfl
  | c :: l, a, hd, hv => by
    have hc := hd c (by simp)
    unfold isDig at hc
    rw [valF_cons] at hv ⊢
    have hge := valF_ge l (10 * a + (c.toNat - 48))
    unfold parseUint10
    rw [if_pos hc, if_neg (by omega), if_neg (by omega), Nat.mul_comm a 10]
    exact parse_ok l _ (fun d hd' => hd d (by simp [hd'])) hv
theorem atoi_dec {n : Nat} (h : n ≤ 9223372036854775807) : atoiAll (decDigits n) = .ok (n : Int) := by
  have hp := parse_ok (decDigits n) 0 (dec_dig n) (by show valL _ < _; rw [val_dec]; omega)
  have hv : valF 0 (decDigits n) = n := val_dec n
  rw [hv] at hp
  have hn := dec_ne n
  have hd := dec_dig n
  generalize decDigits n = l at hp hn hd
  cases l with
  | nil => exact absurd rfl hn
  | cons c r =>
    have hc := hd c (by simp)
    unfold isDig at hc
    unfold atoiAll
    simp only []
    rw [if_neg (by omega)]
    unfold parseMag
    rw [if_neg (by simp), hp]
    simp only []
    rw [if_neg (by omega), if_neg (by omega), if_neg (by omega)]

/-- The text is the numeral of an int that is not below zero. -/
def Good (l : List UInt8) : Prop := decDigits (valL l) = l ∧ valL l ≤ 9223372036854775807
instance (l : List UInt8) : Decidable (Good l) := by unfold Good; infer_instance
def readI (l : List UInt8) : Int × Bool := if Good l then (((valL l : Nat) : Int), true) else (0, false)
theorem good_dec {n : Nat} (h : n ≤ 9223372036854775807) : Good (decDigits n) := by
  unfold Good
  rw [val_dec]
  exact ⟨rfl, h⟩
theorem read_dec {n : Nat} (h : n ≤ 9223372036854775807) : readI (decDigits n) = ((n : Int), true) := by
  unfold readI
  rw [if_pos (good_dec h), val_dec]
theorem read_no {l : List UInt8} (h : ¬ Good l) : readI l = (0, false) := if_neg h
theorem good_len {l : List UInt8} (h : Good l) : l.length ≤ 19 := by
  rw [← h.1]
  exact dec_len 18 _ (by have := h.2; omega)
theorem good_atoi {l : List UInt8} (h : Good l) : atoiAll l = .ok ((valL l : Nat) : Int) := by
  have := atoi_dec h.2
  rwa [h.1] at this
theorem good_digs {l : List UInt8} (h : Good l) : ∀ c ∈ l, isDig c := by
  have := dec_dig (valL l)
  rwa [h.1] at this
theorem read_atoi_no {l : List UInt8} (h : ∀ v, atoiAll l ≠ .ok v) : readI l = (0, false) := read_no fun hg => h _ (good_atoi hg)
theorem read_atoi_neg {l : List UInt8} {v : Int} (h : atoiAll l = .ok v) (hv : v < 0) : readI l = (0, false) := read_no fun hg => by
  have := good_atoi hg
  rw [h] at this
  injection this with this
  omega
theorem read_atoi_other {l : List UInt8} {v : Int} (h : atoiAll l = .ok v) (hne : itoa v ≠ l) : readI l = (0, false) := read_no fun hg => by
  have := good_atoi hg
  rw [h] at this
  injection this with this
  rw [this, itoa_nonneg] at hne
  exact hne hg.1
theorem read_atoi_same {l : List UInt8} {v : Int} (hv : 0 ≤ v) (hm : v ≤ 9223372036854775807) (he : itoa v = l) : readI l = (v, true) := by
  obtain ⟨n, rfl⟩ : ∃ n : Nat, v = (n : Int) := ⟨v.toNat, by omega⟩
  rw [itoa_nonneg] at he
  rw [← he]
  exact read_dec (by omega)
/-- The reference's loop: the k-th byte is no digit, or the number has no room. -/
theorem read_nodig {l : List UInt8} {k : Nat} (hk : k < l.length) (h : ¬ isDig l[k]) : readI l = (0, false) := read_no fun hg => h (good_digs hg _ (List.getElem_mem hk))
theorem val_take {l : List UInt8} {k : Nat} (hk : k < l.length) : valL (l.take (k + 1)) = 10 * valL (l.take k) + (l[k].toNat - 48) := by
  rw [List.take_succ_eq_append_getElem hk, valL_snoc]
theorem val_take_le (l : List UInt8) (k : Nat) : valL (l.take k) ≤ valL l := by
  conv => rhs; rw [← List.take_append_drop k l]
  unfold valL
  rw [valF_append]
  exact valF_ge _ _
theorem read_room {l : List UInt8} {k : Nat} (hk : k < l.length) (h : 9223372036854775807 < 10 * valL (l.take k) + (l[k].toNat - 48)) : readI l = (0, false) := read_no fun hg => by
  have h1 := val_take hk
  have h2 := val_take_le l (k + 1)
  have h3 := hg.2
  omega
theorem read_end_no {l : List UInt8} (h : decDigits (valL l) ≠ l) : readI l = (0, false) := read_no fun hg => h hg.1
theorem read_end {l : List UInt8} (h : decDigits (valL l) = l) (hm : valL l ≤ 9223372036854775807) : readI l = (((valL l : Nat) : Int), true) := if_pos ⟨h, hm⟩
/-- The numeral by rounds from behind (what the reference's loop does). -/
def full (q : Nat) (acc : List UInt8) : List UInt8 := if q = 0 then acc else decDigits q ++ acc
theorem full_step {q : Nat} (acc : List UInt8) (h : 0 < q) : full (q / 10) (UInt8.ofNat (48 + q % 10) :: acc) = full q acc := by
  unfold full
  rw [if_neg (show q ≠ 0 by omega)]
  by_cases h0 : q < 10
  · rw [if_pos (by omega), dec_small h0, Nat.mod_eq_of_lt h0]
    rfl
  · rw [if_neg (by omega), dec_step h0, List.append_assoc]
    rfl
theorem full_nil {q : Nat} (h : 0 < q) : full q [] = decDigits q := by
  unfold full
  rw [if_neg (by omega), List.append_nil]
def fuelF : Nat → Nat → List UInt8 → List UInt8
  | 0, _, acc => acc
  | f + 1, q, acc => if q = 0 then acc else fuelF f (q / 10) (UInt8.ofNat (48 + q % 10) :: acc)
theorem fuel_full : ∀ (f q : Nat) (acc : List UInt8), q < 10 ^ f → fuelF f q acc = full q acc
  | 0, q, acc, h => by
    have : q = 0 := by simpa using h
    subst this
    rfl
  | f + 1, q, acc, h => by
    unfold fuelF
    by_cases h0 : q = 0
    · subst h0
      rfl
    · rw [if_neg h0, fuel_full f (q / 10) _ (by rw [Nat.pow_succ] at h; omega), full_step acc (by omega)]
theorem dec_by {q : Nat} {l : List UInt8} (h : 0 < q) (hq : q < 10 ^ 20) (hl : fuelF 20 q [] = l) : decDigits q = l := by
  rw [← hl, fuel_full 20 q [] hq, full_nil h]
theorem itoa_pos {n : Nat} (h : 0 < n) : itoa (n : Int) = full n [] := by rw [itoa_nonneg, full_nil h]
theorem itoa_min {n : Nat} (h : 0 < n) : itoa (-(n : Int)) = 45 :: full n [] := by rw [itoa_neg n h, full_nil h]
end Go.Proofs.YtpbflceekikbiaaDoor.Dec
