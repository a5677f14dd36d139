/-
  The cursor made (spec.l01New), and drawn texts and numbers (l01Text, l02Num). No conditions but the bound on the code.
-/
import Derived.Test.YtpbflceekikbiaaDoorCur
import Derived.Test.YtpbflceekikbiaaDoorBits
namespace Go.Proofs.YtpbflceekikbiaaDoor
open Go.RowKit

/-- What is told of the code: its bytes lie in cells. -/
def Code8 (w : World) (a : Option Addr) (len : Nat) : Prop := ∀ j, j < len → ∃ b off x, a = some ⟨b, off, none⟩ ∧ w.cell? ⟨b, off + j, none⟩ = some (.int .u8 x) ∧ 0 ≤ x ∧ x ≤ 255

def NewP (w : World) (a : Option Addr) (len cap : Nat) (e : Ending) (w' : World) : Prop :=
  ∃ c, e = .returned (.pointer (some ⟨c, 0, none⟩)) ∧ w.heap.size ≤ c ∧ Cur w' c a len cap ∧ Below w.heap.size w w'

theorem s_l01New (w : World) (a : Option Addr) (len cap : Nat) (hm : len ≤ 1048576) (hcode : Code8 w a len) : Calls Tryd.prog 47 #[.slice a len cap] w (NewP w a len cap) := by
  have HC := Lib.hid hcode
  clear hcode
  go_enter Tryd.func47, Tryd.ntmps47
  go_wp2_with fail
  go_loop [3, 4] (fun x i => ∃ (k : Nat) (h : Int), k ≤ len ∧ i = .int .i64 (k : Int) ∧ x = .int .i64 h) (fun _ i => len - (intOf i).toNat)
  case atStart => exact ⟨0, _, by omega, rfl, rfl⟩
  case round =>
    obtain ⟨k, h, hk, rfl, rfl⟩ := hrel
    by_cases hlt : k < len
    · by_cases hlt2 : (k : Int) < 4000
      · obtain ⟨b, off, x, rfl, hx, hx0, hx1⟩ := HC.out k hlt
        go_wp2_with fail
        go_round
        case rel => exact ⟨k + 1, _, by omega, by go_num, rfl⟩
        case measure => simp [intOf]; omega
      · go_wp2_with fail
        (go_ret
         refine ⟨w.heap.size, rfl, Nat.le_refl _, ⟨0, h, ?_⟩, by go_grown⟩
         refine ⟨heap_alloc_new w _, Nat.zero_le _, hm, fun j hj => ?_⟩
         obtain ⟨b, off, x, h1, h2, h3⟩ := HC.out j hj
         exact ⟨b, off, x, h1, World.block_lt_of_cell? w _ h2, (((Below.refl _ w).alloc (Nat.le_refl _) _).cell (World.block_lt_of_cell? w _ h2)).trans h2, h3⟩)
    · go_wp2_with fail
      (go_ret
       refine ⟨w.heap.size, rfl, Nat.le_refl _, ⟨0, h, ?_⟩, by go_grown⟩
       refine ⟨heap_alloc_new w _, Nat.zero_le _, hm, fun j hj => ?_⟩
       obtain ⟨b, off, x, h1, h2, h3⟩ := HC.out j hj
       exact ⟨b, off, x, h1, World.block_lt_of_cell? w _ h2, (((Below.refl _ w).alloc (Nat.le_refl _) _).cell (World.block_lt_of_cell? w _ h2)).trans h2, h3⟩)

theorem grown_then {w w1 w2 : World} {r : Option Nat} (h : w.grownBy w1 r) (hb : Below w.heap.size w1 w2) : w.grownBy w2 r :=
  ⟨hb.os.trans h.os, hb.tape.trans h.tape, hb.output.trans h.output, Nat.le_trans h.size hb.size, fun q hq hr => (hb.block q hq).trans (h.block q hq hr)⟩
def TextP (w : World) (c : Nat) (a : Option Addr) (len cap : Nat) (n : Int) (e : Ending) (w' : World) : Prop :=
  ∃ l : List UInt8, e = .returned (.string ⟨l.toArray⟩) ∧ l.length ≤ 5000 ∧ (n ≤ 5000 → l.length = n.toNat) ∧ Cur w' c a len cap ∧ w.grownBy w' (some c)

theorem u8c {x : Nat} (h : x < 256) : ((UInt8.ofNat x).toNat : Int) = (x : Int) := by
  rw [UInt8.toNat_ofNat']; omega
end Go.Proofs.YtpbflceekikbiaaDoor
