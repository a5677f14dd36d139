/-
  Slices of strings: the laws' markText, eqStringS, markStringS, heldStringS. No conditions but the bounds on lengths.
-/
import Derived.Test.YtedmfoogllekeaaDoorBytes
import Derived.Deep.QuietTactic
import Derived.BigQuiet
import Derived.Laws.OwnMore
import Derived.WalkSmall
import Derived.Deep.RegionHeld3
namespace Go.Proofs.YtedmfoogllekeaaDoor
open Go.ChangeShapes Go.WideShapes Go.ChangeAt Go.RowKit

theorem infoS : (Tryd.prog.info? 9).map (fun i => (i.zero, i.size, i.bytes)) = some (some (.string ⟨#[]⟩), 1, 16) := by kernel_rfl
theorem conv_byte (w : World) (b : Nat) (x : UInt8) (h : w.cell? ⟨b, 0, none⟩ = some (.int .u8 (x.toNat : Int))) : (convert 37 9 (.slice (some ⟨b, 0, none⟩) 1 1)).run Tryd.prog w = .ok (.string ⟨#[x]⟩) w := by
  refine run_convert_bytes_back (P := Tryd.prog) w 37 9 5 ⟨b, 0, none⟩ 1 [x] Tryd.underlying37 Tryd.underlying5 Tryd.underlying9 (fun j hj => ?_)
  obtain rfl : j = 0 := by simpa using hj
  exact h
theorem app_front (x : UInt8) (l : List UInt8) : (⟨#[x]⟩ : ByteArray) ++ ⟨l.toArray⟩ = ⟨(x :: l).toArray⟩ := by
  apply ByteArray.ext
  apply Array.toList_inj.1
  simp

def decF : Nat → Nat → List UInt8 → List UInt8
  | 0, _, acc => acc
  | f + 1, n, acc => if n = 0 then acc else decF f (n / 10) (UInt8.ofNat (48 + n % 10) :: acc)
theorem decF_zero (f : Nat) (acc : List UInt8) : decF f 0 acc = acc := by cases f <;> simp [decF]
theorem decF_step (f n : Nat) (acc : List UInt8) (h : 0 < n) : decF (f + 1) n acc = decF f (n / 10) (UInt8.ofNat (48 + n % 10) :: acc) := by
  simp [decF, show n ≠ 0 by omega]
def markS (k : Nat) : ByteArray := ⟨(109 :: decF 20 k []).toArray⟩

theorem l_markText (w : World) (k : Nat) (h1 : 1 ≤ k) (h2 : k ≤ 100000) : Calls Tryd.prog 16 #[.int .i64 (k : Int)] w fun e w' => e = .returned (.string (markS k)) ∧ Below w.heap.size w w' := by
  have hk0 : ¬ (k : Int) ≤ 0 := by omega
  go_enter Tryd.func16, Tryd.ntmps16
  go_wp2_with fail
  go_loopw [0, 3] (fun i s wr => ∃ (f n : Nat) (acc : List UInt8), s = .string ⟨acc.toArray⟩ ∧ i = .int .i64 (n : Int) ∧ n < 10 ^ f ∧ n ≤ 100000 ∧ acc.length + f = 20 ∧ Hid (decF f n acc = decF 20 k []) ∧ Below w.heap.size w wr) (fun i _ _ => (intOf i).toNat)
  case atStart => exact ⟨20, k, [], rfl, rfl, by omega, h2, rfl, rfl, Below.refl _ _⟩
  case round =>
    obtain ⟨f, n, acc, rfl, rfl, hf, hn, hacc, HD, hbel⟩ := hrel
    by_cases hpos : 0 < n
    · obtain ⟨g, rfl⟩ : ∃ g, f = g + 1 := by
        rcases f with _ | f
        · simp at hf; omega
        · exact ⟨f, rfl⟩
      have HG : Hid (n / 10 < 10 ^ g) := by unfold Hid; rw [Nat.pow_succ] at hf; omega
      obtain ⟨x, hx⟩ : ∃ x, UInt8.ofNat (48 + n % 10) = x := ⟨_, rfl⟩
      have HD2 : Hid (decF g (n / 10) (x :: acc) = decF 20 k []) := by rw [← HD.out, decF_step g n acc hpos, hx]; rfl
      have hxn : (x.toNat : Int) = 48 + (n : Int) % 10 := by rw [← hx, UInt8.toNat_ofNat']; omega
      have hcv : ∀ (w : World) (b : Nat), w.cell? ⟨b, 0, none⟩ = some (.int .u8 (x.toNat : Int)) → (convert 37 9 (.slice (some ⟨b, 0, none⟩) 1 1)).run Tryd.prog w = .ok (.string ⟨#[x]⟩) w := fun w b => conv_byte w b x
      rw [hxn] at hcv
      have happ := app_front x acc
      have hsz : ¬ 9223372036854775807 < 1 + acc.length := by omega
      have HA := Lib.hid hacc
      clear hx hxn hf hacc HD
      go_wp2_with fail
      go_roundw
      case rel => exact ⟨g, n / 10, x :: acc, rfl, by go_num, HG.out, by omega, by have := HA.out; simp; omega, HD2, hbel.alloc hbel.size _⟩
      case measure => simp [intOf]; omega
    · have hz : n = 0 := by omega
      have HR : Hid (acc = decF 20 k []) := by rw [← HD.out, hz, decF_zero]; unfold Hid; rfl
      subst hz
      have happ := app_front 109 acc
      have hsz : ¬ 9223372036854775807 < 1 + acc.length := by omega
      clear hacc hf HD
      go_wp2_with fail
      go_ret
      exact ⟨by unfold markS; rw [← HR.out]; rfl, hbel⟩

def OwnS (w : World) (B : Nat) (v : Value) (l : List ByteArray) : Prop := w.ownsRow B 9 1 v l.length (l.map Value.string)
theorem OwnS.form {w : World} {B : Nat} {v : Value} {l : List ByteArray} (h : OwnS w B v l) : ∃ A c, v = .slice A l.length c ∧ ∀ j, j < l.length → ∃ g, A = some ⟨g, 0, none⟩ ∧ w.cell? ⟨g, j, none⟩ = some (.string (l.getD j ⟨#[]⟩)) := by
  rcases h.2 with ⟨rfl, h0⟩ | ⟨g, cap, cur, rfl, -⟩
  · exact ⟨none, 0, by rw [h0], fun j hj => absurd hj (by omega)⟩
  · refine ⟨some ⟨g, 0, none⟩, cap, rfl, fun j hj => ⟨g, rfl, ?_⟩⟩
    rw [World.ownsRow.cellAt h j (by omega)]
    simp [List.getElem?_eq_getElem hj, List.getD]
def marksL (n : Nat) : List ByteArray := (List.range n).map fun j => markS (j + 1)
theorem marks_get (n j : Nat) (h : j < n) : (marksL n)[j]? = some (markS (j + 1)) := by simp [marksL, h]
theorem marks_length (n : Nat) : (marksL n).length = n := by simp [marksL]
theorem set_mark (l : List ByteArray) {k : Nat} (h : k < l.length) : ((marksL k ++ l.drop k).map Value.string).set k (.string (markS (k + 1))) = (marksL (k + 1) ++ l.drop (k + 1)).map Value.string := by
  have e : marksL (k + 1) = marksL k ++ [markS (k + 1)] := by simp [marksL, List.range_succ]
  rw [e, List.drop_eq_getElem_cons h, List.map_append, List.set_append_right _ _ (by simp [marksL]), List.map_cons, List.map_append, List.map_append, List.length_map, marks_length, Nat.sub_self, List.set_cons_zero]
  simp

theorem l_eqStringS (w : World) (B C : Nat) (v u : Value) (l : List ByteArray) (hm : l.length ≤ 100000) (h1 : OwnS w B v l) (h2 : OwnS w C u l) : Calls Tryd.prog 9 #[v, u] w fun e w' => e = .returned (.bool true) ∧ ∃ n, w' = w.drewN n := by
  obtain ⟨A1, c1, rfl, hc1⟩ := h1.form
  obtain ⟨A2, c2, rfl, hc2⟩ := h2.form
  have H1 := Lib.hid hc1
  have H2 := Lib.hid hc2
  clear hc1 hc2 h1 h2
  obtain ⟨len, hlen⟩ : ∃ len, l.length = len := ⟨_, rfl⟩
  rw [hlen] at hm ⊢
  have HL := Lib.hid hlen
  clear hlen
  go_enter Tryd.func9, Tryd.ntmps9
  go_wp2_with fail
  go_loopw [5] (fun i wr => ∃ k n : Nat, i = .int .i64 k ∧ k ≤ len ∧ wr = w.drewN n) (fun i _ => len - (intOf i).toNat)
  case atStart => exact ⟨0, 0, rfl, by omega, rfl⟩
  case round =>
    obtain ⟨k, n, rfl, hk, hw⟩ := hrel
    have HW := Lib.hid hw
    by_cases hlt : k < len
    · obtain ⟨g, rfl, hg⟩ := H1.out k (by rw [HL.out]; exact hlt)
      obtain ⟨h, rfl, hh⟩ := H2.out k (by rw [HL.out]; exact hlt)
      have c1 : wr.cell? ⟨g, k, none⟩ = some (.string (l.getD k ⟨#[]⟩)) := by rw [hw]; exact hg
      have c2 : wr.cell? ⟨h, k, none⟩ = some (.string (l.getD k ⟨#[]⟩)) := by rw [hw]; exact hh
      obtain ⟨z, hz⟩ : ∃ z, l.getD k ⟨#[]⟩ = z := ⟨_, rfl⟩
      rw [hz] at c1 c2
      clear hz hw hg hh
      go_wp2_with fail
      go_quiet (fail)
      go_wp2_with fail
      go_roundw
      case rel => exact ⟨k + 1, n + nq, by go_num, by omega, by rw [HW.out]; exact World.drewN_drewN _ _ _⟩
      case measure => simp [intOf]; omega
    · clear hw
      go_wp2_with fail
      go_ret
      exact ⟨rfl, n, HW.out⟩

theorem l_heldStringS (w : World) (B : Nat) (v : Value) (n : Nat) (hm : n ≤ 50000) (h1 : OwnS w B v (marksL n)) : Calls Tryd.prog 11 #[v, .int .i64 1] w fun e w' => e = .returned (.int .i64 ((n : Int) + 1)) ∧ Below w.heap.size w w' := by
  obtain ⟨A1, c1, rfl, hc1⟩ := h1.form
  rw [marks_length] at hc1 ⊢
  have H1 := Lib.hid hc1
  clear hc1 h1
  go_enter Tryd.func11, Tryd.ntmps11
  go_wp2_with fail
  go_loopw [1, 5] (fun m i wr => ∃ k : Nat, m = .int .i64 ((k : Int) + 1) ∧ i = .int .i64 k ∧ k ≤ n ∧ Below w.heap.size w wr) (fun _ i _ => n - (intOf i).toNat)
  case atStart => exact ⟨0, rfl, rfl, by omega, Below.refl _ _⟩
  case round =>
    obtain ⟨k, rfl, rfl, hk, hbel⟩ := hrel
    by_cases hlt : k < n
    · obtain ⟨g, rfl, hg⟩ := H1.out k hlt
      have hg2 : wr.cell? ⟨g, k, none⟩ = some (.string (markS (k + 1))) := by
        rw [hbel.cell (World.block_lt_of_cell? w _ hg), hg]
        simp [List.getD, marks_get n k hlt]
      obtain ⟨S, hS⟩ : ∃ S, markS (k + 1) = S := ⟨_, rfl⟩
      have HM : Hid (∀ w, Calls Tryd.prog 16 #[.int .i64 ((k : Int) + 1)] w fun e w' => e = .returned (.string S) ∧ Below w.heap.size w w') := fun w => by
        have := l_markText w (k + 1) (by omega) (by omega)
        rw [hS] at this
        exact this
      rw [hS] at hg2
      have hgl : g < wr.heap.size := World.block_lt_of_cell? wr _ hg2
      clear hg hS
      go_wp2_with fail
      go_region_held3 (fun w' => w'.cell? ⟨g, k, none⟩ = some (.string S)) (go_keep) ((go_at_call 16; refine (HM.out _).mono ?_; rintro e w1 ⟨rfl, hb⟩; have hc1 : w1.cell? ⟨g, k, none⟩ = some (.string S) := (hb.cell (p := ⟨g, k, none⟩) hgl).trans hg2))
      go_wp2_with fail
      go_roundw
      case rel => exact ⟨k + 1, by go_num, by go_num, by omega, hbel.drew.trans (hb.mono hbel.size)⟩
      case measure => simp [intOf]; omega
    · obtain rfl : k = n := by omega
      go_wp2_with fail
      go_ret
      exact ⟨rfl, hbel⟩

theorem grown_of {w w' : World} (h : Below w.heap.size w w') (r : Option Nat) : w.grownBy w' r := ⟨h.os, h.tape, h.output, h.size, fun k hk _ => h.block k hk⟩
theorem grown_set_at {w a b : World} {g : Nat} (h : w.grownBy a (some g)) (k : a.grownBy b (some g)) (j : Nat) (u : Value) : w.grownBy (b.setCell ⟨g, j, none⟩ u) (some g) :=
  ⟨k.os.trans h.os, k.tape.trans h.tape, k.output.trans h.output, Nat.le_trans h.size (Nat.le_trans k.size (by simp)), fun i hi hr => (heap_setCell_other b ⟨g, j, none⟩ i u (fun e => hr (by simp [e]))).trans ((k.block i (Nat.lt_of_lt_of_le hi h.size) hr).trans (h.block i hi hr))⟩
theorem l_markStringS (w : World) (B : Nat) (v : Value) (l : List ByteArray) (hm : l.length ≤ 50000) (h : OwnS w B v l) : Calls Tryd.prog 10 #[v, .int .i64 1] w fun e w' => e = .returned (.int .i64 ((l.length : Int) + 1)) ∧ OwnS w' B v (marksL l.length) ∧ w.grownBy w' v.ownBlock := by
  obtain ⟨len, hlen⟩ : ∃ len, l.length = len := ⟨_, rfl⟩
  have HL := Lib.hid hlen
  have hcase := h.2
  rw [hlen] at hm hcase ⊢
  clear hlen
  rcases hcase with ⟨rfl, rfl⟩ | ⟨g, cap, cur, rfl, hB, -⟩
  · have hl : l = [] := List.eq_nil_of_length_eq_zero HL.out
    subst hl
    clear HL
    go_enter Tryd.func10, Tryd.ntmps10
    go_wp2_with fail
    go_loopw [1, 5] (fun m i wr => m = .int .i64 1 ∧ i = .int .i64 0 ∧ wr = w) (fun _ _ _ => 0)
    case atStart => exact ⟨rfl, rfl, rfl⟩
    case round =>
      obtain ⟨rfl, rfl, hw⟩ := hrel
      have HW := Lib.hid hw
      clear hw
      go_wp2_with fail
      go_ret
      exact ⟨rfl, by rw [HW.out]; exact h, by rw [HW.out]; exact World.grownBy.refl _ _⟩
  · have HO : Hid (OwnS w B (.slice (some ⟨g, 0, none⟩) len cap) (marksL 0 ++ l.drop 0)) := by unfold Hid; simpa [marksL] using h
    clear h
    go_enter Tryd.func10, Tryd.ntmps10
    go_wp2_with fail
    go_loopw [1, 5] (fun m i wr => ∃ k : Nat, m = .int .i64 ((k : Int) + 1) ∧ i = .int .i64 k ∧ k ≤ len ∧ OwnS wr B (.slice (some ⟨g, 0, none⟩) len cap) (marksL k ++ l.drop k) ∧ w.grownBy wr (some g)) (fun _ i _ => len - (intOf i).toNat)
    case atStart => exact ⟨0, rfl, rfl, by omega, HO.out, World.grownBy.refl _ _⟩
    case round =>
      obtain ⟨k, rfl, rfl, hk, hown, hg⟩ := hrel
      have hn : (marksL k ++ l.drop k).length = len := by rw [List.length_append, marks_length, List.length_drop, HL.out]; omega
      unfold OwnS at hown
      rw [hn] at hown
      by_cases hlt : k < len
      · have hc : ∃ u, wr.cell? ⟨g, k, none⟩ = some u := by
          rw [hown.cellAt k (by omega)]
          exact ⟨_, List.getElem?_eq_getElem (by rw [List.length_map, hn]; exact hlt)⟩
        obtain ⟨u, hc⟩ := hc
        have hf := hown.frozenAt k
        have HO2 := Lib.hid hown
        obtain ⟨S, hS⟩ : ∃ S, markS (k + 1) = S := ⟨_, rfl⟩
        have HM : Hid (∀ w, Calls Tryd.prog 16 #[.int .i64 ((k : Int) + 1)] w fun e w' => e = .returned (.string S) ∧ Below w.heap.size w w') := fun w => by
          have := l_markText w (k + 1) (by omega) (by omega)
          rw [hS] at this
          exact this
        have HS := Lib.hid hS
        clear hown hS hn
        have hgl : g < wr.heap.size := World.block_lt_of_cell? wr _ hc
        go_wp2_with fail
        refine (HM.out _).mono ?_
        rintro e w1 ⟨rfl, hb⟩
        have hc1 : w1.cell? ⟨g, k, none⟩ = some u := (hb.cell (p := ⟨g, k, none⟩) hgl).trans hc
        have hf1 : w1.frozen? ⟨g, k, none⟩ = false := (hb.frozen (p := ⟨g, k, none⟩) hgl).trans hf
        have ho1 : w1.ownsRow B 9 1 (.slice (some ⟨g, 0, none⟩) len cap) len ((marksL k ++ l.drop k).map Value.string) := World.ownsRow.kept HO2.out (grown_of hb none) (.inr (by simp [Value.ownBlock]))
        have hst := ho1.stored k (.string S)
        rw [← HS.out, set_mark l (by rw [HL.out]; exact hlt), HS.out] at hst
        have HST : Hid (OwnS (w1.setCell ⟨g, k, none⟩ (.string S)) B (.slice (some ⟨g, 0, none⟩) len cap) (marksL (k + 1) ++ l.drop (k + 1))) := by
          unfold Hid OwnS
          rw [List.length_append, marks_length, List.length_drop, HL.out, show k + 1 + (len - (k + 1)) = len by omega]
          exact hst.1
        have hg2 := grown_set_at hg (grown_of hb (some g)) k (.string S)
        clear hst ho1 hc hf HO2
        go_wp2_with fail
        go_roundw
        case rel => exact ⟨k + 1, by go_num, by go_num, by omega, HST.out, hg2⟩
        case measure => simp [intOf]; omega
      · obtain rfl : k = len := by omega
        have HO2 : Hid (OwnS wr B (.slice (some ⟨g, 0, none⟩) k cap) (marksL k)) := by
          unfold Hid OwnS
          rw [marks_length]
          rw [List.drop_of_length_le (by rw [HL.out]; exact Nat.le_refl _), List.append_nil] at hown
          exact hown
        clear hown hn
        go_wp2_with fail
        go_ret
        exact ⟨rfl, HO2.out, hg⟩
end Go.Proofs.YtedmfoogllekeaaDoor
