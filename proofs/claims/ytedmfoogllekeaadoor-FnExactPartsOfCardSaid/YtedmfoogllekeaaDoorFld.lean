/-
  The words of a line of printable bytes. Plain lists. No conditions.
-/
import Derived.Lib.Fields
import Derived.Lib.FieldsLaws
namespace Go.Proofs.YtedmfoogllekeaaDoor.Fld
open Go.Lib

def Prn (c : UInt8) : Prop := 32 ≤ c.toNat ∧ c.toNat ≤ 126
instance (c : UInt8) : Decidable (Prn c) := by unfold Prn; infer_instance
def Line (l : List UInt8) : Prop := l.length ≤ 600 ∧ ∀ c ∈ l, Prn c
instance (l : List UInt8) : Decidable (Line l) := by unfold Line; infer_instance
theorem sp_iff {c : UInt8} (h : Prn c) : isSp c = true ↔ c.toNat = 32 := by
  unfold Prn at h
  unfold isSp
  simp only [Bool.or_eq_true, beq_iff_eq, ← UInt8.toNat_inj]
  constructor
  · intro hc
    have e9 : (9 : UInt8).toNat = 9 := rfl
    have e10 : (10 : UInt8).toNat = 10 := rfl
    have e11 : (11 : UInt8).toNat = 11 := rfl
    have e12 : (12 : UInt8).toNat = 12 := rfl
    have e13 : (13 : UInt8).toNat = 13 := rfl
    have e32 : (32 : UInt8).toNat = 32 := rfl
    omega
  · intro hc
    right
    exact hc
theorem sp_t {c : UInt8} (h : Prn c) (hc : c.toNat = 32) : isSp c = true := (sp_iff h).2 hc
theorem sp_f {c : UInt8} (h : Prn c) (hc : c.toNat ≠ 32) : isSp c = false := by
  rw [Bool.eq_false_iff]
  exact fun e => hc ((sp_iff h).1 e)

/-- What is still to come of the line's words: the piece from b on that is open at i, and what stands behind. -/
def todo (l : List UInt8) (b i : Nat) : List (List UInt8) := fieldsGo ((l.drop b).take (i - b)) (l.drop i)
theorem todo_start (l : List UInt8) : todo l 0 0 = fields l := by
  unfold todo fields
  simp
theorem todo_more {l : List UInt8} {b i : Nat} (hb : b ≤ i) (hi : i < l.length) (hp : Prn l[i]) (hc : l[i].toNat ≠ 32) : todo l b (i + 1) = todo l b i := by
  unfold todo
  rw [drop_at (List.getElem?_eq_getElem hi), piece_more hb (List.getElem?_eq_getElem hi), fieldsGo_more _ _ _ (sp_f hp hc)]
theorem todo_space {l : List UInt8} {i : Nat} (hi : i < l.length) (hp : Prn l[i]) (hc : l[i].toNat = 32) : todo l (i + 1) (i + 1) = todo l i i := by
  unfold todo
  rw [piece_nil, piece_nil]
  conv => rhs; rw [drop_at (List.getElem?_eq_getElem hi)]
  rw [fieldsGo_sp _ _ (sp_t hp hc)]
theorem todo_word {l : List UInt8} {b i : Nat} (hb : b < i) (hi : i < l.length) (hp : Prn l[i]) (hc : l[i].toNat = 32) : todo l b i = (l.drop b).take (i - b) :: todo l (i + 1) (i + 1) := by
  unfold todo
  rw [piece_nil, drop_at (List.getElem?_eq_getElem hi), fieldsGo_end _ _ _ (sp_t hp hc) (piece_ne hb (by omega))]
theorem todo_last {l : List UInt8} {b : Nat} (hb : b < l.length) : todo l b l.length = [(l.drop b).take (l.length - b)] := by
  unfold todo
  rw [List.drop_length]
  have h := piece_ne hb (Nat.le_refl l.length)
  unfold fieldsGo
  cases h2 : (l.drop b).take (l.length - b) with
  | nil => exact absurd h2 h
  | cons c r => rfl
theorem todo_none (l : List UInt8) : todo l l.length l.length = [] := by
  unfold todo
  rw [piece_nil, List.drop_length]
  rfl
theorem fields_le (l : List UInt8) : (fields l).length ≤ l.length := by
  rw [fields_length]
  have : ∀ (b : Bool) (m : List UInt8), cntF b m ≤ m.length := by
    intro b m
    induction m generalizing b with
    | nil => simp [cntF]
    | cons c m ih =>
      have := ih (isSp c)
      rw [cntF_step]
      split
      · simp; omega
      · simp; omega
  exact this true l
end Go.Proofs.YtedmfoogllekeaaDoor.Fld
