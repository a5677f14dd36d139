/-
  The cursor made (spec.l01New), and drawn texts and numbers (l01Text, l02Num). No conditions but the bound on the code.
-/
import Derived.Test.YtfelhmcejkbpfaaCur
import Derived.Test.YtfelhmcejkbpfaaBits
namespace Go.Proofs.Ytfelhmcejkbpfaa
open Go.RowKit

/-- What is told of the code: its bytes lie in cells. -/
def Code8 (w : World) (a : Option Addr) (len : Nat) : Prop := ∀ j, j < len → ∃ b off x, a = some ⟨b, off, none⟩ ∧ w.cell? ⟨b, off + j, none⟩ = some (.int .u8 x) ∧ 0 ≤ x ∧ x ≤ 255

def NewP (w : World) (a : Option Addr) (len cap : Nat) (e : Ending) (w' : World) : Prop :=
  ∃ c, e = .returned (.pointer (some ⟨c, 0, none⟩)) ∧ w.heap.size ≤ c ∧ Cur w' c a len cap ∧ Below w.heap.size w w'

theorem s_l01New (w : World) (a : Option Addr) (len cap : Nat) (hm : len ≤ 1048576) (hcode : Code8 w a len) : Calls Try.prog 51 #[.slice a len cap] w (NewP w a len cap) := by
  have HC := Lib.hid hcode
  clear hcode
  go_enter Try.func51, Try.ntmps51
  go_wp2_with fail
  go_loop [3, 4] (fun x i => ∃ (k : Nat) (h : Int), k ≤ len ∧ i = .int .i64 (k : Int) ∧ x = .int .i64 h) (fun _ i => len - (intOf i).toNat)
  case atStart => exact ⟨0, _, by omega, rfl, rfl⟩
  case round =>
    obtain ⟨k, h, hk, rfl, rfl⟩ := hrel
    by_cases hlt : k < len
    · by_cases hlt2 : (k : Int) < 4000
      · obtain ⟨b, off, x, rfl, hx, hx0, hx1⟩ := HC.out k hlt
        go_wp2_with fail
        go_round
        case rel => exact ⟨k + 1, _, by omega, by go_num, rfl⟩
        case measure => simp [intOf]; omega
      · go_wp2_with fail
        (go_ret
         refine ⟨w.heap.size, rfl, Nat.le_refl _, ⟨0, h, ?_⟩, by go_grown⟩
         refine ⟨heap_alloc_new w _, Nat.zero_le _, hm, fun j hj => ?_⟩
         obtain ⟨b, off, x, h1, h2, h3⟩ := HC.out j hj
         exact ⟨b, off, x, h1, World.block_lt_of_cell? w _ h2, (((Below.refl _ w).alloc (Nat.le_refl _) _).cell (World.block_lt_of_cell? w _ h2)).trans h2, h3⟩)
    · go_wp2_with fail
      (go_ret
       refine ⟨w.heap.size, rfl, Nat.le_refl _, ⟨0, h, ?_⟩, by go_grown⟩
       refine ⟨heap_alloc_new w _, Nat.zero_le _, hm, fun j hj => ?_⟩
       obtain ⟨b, off, x, h1, h2, h3⟩ := HC.out j hj
       exact ⟨b, off, x, h1, World.block_lt_of_cell? w _ h2, (((Below.refl _ w).alloc (Nat.le_refl _) _).cell (World.block_lt_of_cell? w _ h2)).trans h2, h3⟩)

theorem grown_then {w w1 w2 : World} {r : Option Nat} (h : w.grownBy w1 r) (hb : Below w.heap.size w1 w2) : w.grownBy w2 r :=
  ⟨hb.os.trans h.os, hb.tape.trans h.tape, hb.output.trans h.output, Nat.le_trans h.size hb.size, fun q hq hr => (hb.block q hq).trans (h.block q hq hr)⟩
def TextP (w : World) (c : Nat) (a : Option Addr) (len cap : Nat) (n : Int) (e : Ending) (w' : World) : Prop :=
  ∃ l : List UInt8, e = .returned (.string ⟨l.toArray⟩) ∧ l.length ≤ 5000 ∧ (n ≤ 5000 → l.length = n.toNat) ∧ Cur w' c a len cap ∧ w.grownBy w' (some c)

theorem u8c {x : Nat} (h : x < 256) : ((UInt8.ofNat x).toNat : Int) = (x : Int) := by
  rw [UInt8.toNat_ofNat']; omega
theorem s_l01Text_in (w : World) (c : Nat) (a : Option Addr) (len cap : Nat) (n : Nat) (hn : n ≤ 5000) (hc : Cur w c a len cap) : Calls Try.prog 55 #[.pointer (some ⟨c, 0, none⟩), .int .i64 (n : Int)] w (TextP w c a len cap n) := by
  have hcl := hc.lt
  go_enter Try.func55, Try.ntmps55
  go_wp2_with fail
  go_loopw [5, 6] (fun v i wr => ∃ l : List UInt8, l.length ≤ n ∧ i = .int .i64 (l.length : Int) ∧ OwnB wr w.heap.size v l ∧ Cur wr c a len cap ∧ w.grownBy wr (some c)) (fun _ i _ => n - (intOf i).toNat)
  case atStart => exact ⟨[], by simp, rfl, OwnB.made w _ 0 #[] (Nat.le_refl _) (by decide) rfl, hc.alloc _, World.grownBy_alloc _ _ _⟩
  case round =>
    obtain ⟨l, hl, rfl, hown, hcr, hg⟩ := hrel
    obtain ⟨k, hk⟩ : ∃ k, l.length = k := ⟨_, rfl⟩
    have HK := Lib.hid hk
    rw [hk] at hl ⊢
    clear hk
    by_cases hlt : k < n
    · go_wp2_with fail
      refine (s_l01Byte _ _ _ _ _ hcr).mono ?_
      rintro e w1 ⟨x, rfl, hx0, hx1, hc1, hg1⟩
      obtain ⟨y, rfl⟩ : ∃ y : Nat, x = (y : Int) := ⟨x.toNat, by omega⟩
      have hown1 : OwnB w1 w.heap.size _ l := hown.below (fun g hgv => by
        have := World.ownsRow.lt hown g hgv
        exact hg1.block g this.2 (by simp; omega))
      have hsz : w.heap.size ≤ w1.heap.size := Nat.le_trans hg.size hg1.size
      have hl2 : l.length + 1 ≤ 140737488355328 := by rw [HK.out]; omega
      have hgg := grown_trans hg hg1
      clear hown hcr hg hg1
      go_wp2_with (at_builtin; refine wpList_push rfl hown1 (UInt8.ofNat y) _ _ rfl _ rfl rfl (by have := u8c (x := y) (by omega); omega) hl2 hsz ?_; intro v2 w2 hown2 hb2)
      have hc2 := hc1.below hb2 hcl
      have hg2 := grown_then hgg hb2
      clear hgg hb2 hown1 hc1
      go_roundw
      case rel => exact ⟨l ++ [UInt8.ofNat y], by simp [HK.out]; omega, by rw [List.length_append, HK.out]; go_num, hown2, hc2, hg2⟩
      case measure => simp [intOf]; omega
    · have hE : Hid (k = n) := by unfold Hid; omega
      have hcv := hown.conv
      go_wp2_with fail
      go_ret
      exact ⟨l, rfl, by rw [HK.out]; omega, fun _ => by rw [HK.out, hE.out]; rfl, hcr, hg⟩
end Go.Proofs.Ytfelhmcejkbpfaa
