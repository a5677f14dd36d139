/-
  RuneText (both sides) and its law. No conditions.
-/
import Derived.Test.YtedmfoogllekeaaDoorWB
import Derived.Test.YtedmfoogllekeaaDoorBytes
import Derived.Laws.Runes
import Derived.WalkSmall
namespace Go.Proofs.YtedmfoogllekeaaDoor
open Go.ChangeShapes Go.WideShapes Go.ChangeAt Go.RowKit

def runeT (n : Int) : ByteArray := if runeOkB n = true then Utf8.encode n else ⟨#[]⟩
theorem ret_bytes {a b : ByteArray} (h : a = b) : Ending.returned (.string a) = .returned (.string b) := by rw [h]
theorem rok_parts {n : Int} (h : runeOkB n = true) : 0 ≤ n ∧ n ≤ 1114111 ∧ (n < 55296 ∨ 57343 < n) := by
  unfold runeOkB inB at h
  simp at h
  omega
theorem rok_valid {n : Int} (h : runeOkB n = true) : Utf8.valid n = true := by
  have := rok_parts h
  unfold Utf8.valid
  simp
  omega
theorem enc1 {m : Nat} (h : m < 128) (hv : Utf8.valid (m : Int) = true) : Utf8.encode (m : Int) = ⟨#[UInt8.ofNat m]⟩ := by
  unfold Utf8.encode
  simp only [hv, if_true, Int.toNat_natCast]
  rw [if_pos h]
theorem enc2 {m : Nat} (h0 : ¬ m < 128) (h : m < 2048) (hv : Utf8.valid (m : Int) = true) : Utf8.encode (m : Int) = ⟨#[UInt8.ofNat (192 + m / 64), UInt8.ofNat (128 + m % 64)]⟩ := by
  unfold Utf8.encode
  simp only [hv, if_true, Int.toNat_natCast]
  rw [if_neg h0, if_pos h]
theorem enc3 {m : Nat} (h0 : ¬ m < 2048) (h : m < 65536) (hv : Utf8.valid (m : Int) = true) : Utf8.encode (m : Int) = ⟨#[UInt8.ofNat (224 + m / 4096), UInt8.ofNat (128 + m / 64 % 64), UInt8.ofNat (128 + m % 64)]⟩ := by
  unfold Utf8.encode
  simp only [hv, if_true, Int.toNat_natCast]
  rw [if_neg (by omega), if_neg h0, if_pos h]
theorem enc4 {m : Nat} (h0 : ¬ m < 65536) (hv : Utf8.valid (m : Int) = true) : Utf8.encode (m : Int) = ⟨#[UInt8.ofNat (240 + m / 262144), UInt8.ofNat (128 + m / 4096 % 64), UInt8.ofNat (128 + m / 64 % 64), UInt8.ofNat (128 + m % 64)]⟩ := by
  unfold Utf8.encode
  simp only [hv, if_true, Int.toNat_natCast]
  rw [if_neg (by omega), if_neg (by omega), if_neg h0]

theorem conv_list (w : World) (b : Nat) (l : List UInt8) (n : Nat) (hn : l.length = n) (h : ∀ j (hj : j < l.length), w.cell? ⟨b, j, none⟩ = some (.int .u8 (l[j].toNat : Int))) : (convert 37 9 (.slice (some ⟨b, 0, none⟩) n n)).run Tryd.prog w = .ok (.string ⟨l.toArray⟩) w := by
  subst hn
  refine run_convert_bytes_back (P := Tryd.prog) w 37 9 5 ⟨b, 0, none⟩ l.length l Tryd.underlying37 Tryd.underlying5 Tryd.underlying9 (fun j hj => ?_)
  have e : (⟨b, 0, none⟩ : Addr).add j = ⟨b, j, none⟩ := by unfold Addr.add; split <;> simp_all
  rw [e]
  exact h j hj
/-- A new block of bytes, read as a string. -/
theorem conv_new (w : World) (l : List UInt8) (n : Nat) (hn : l.length = n) : (convert 37 9 (.slice (some ⟨w.heap.size, 0, none⟩) n n)).run Tryd.prog (w.alloc (.cells (bc l).toArray 5)) = .ok (.string ⟨l.toArray⟩) (w.alloc (.cells (bc l).toArray 5)) := by
  refine conv_list _ _ l n hn fun j hj => ?_
  rw [cell_of_row _ w.heap.size j _ _ (0, 0) (heap_alloc_new w _)]
  simp [bc, hj]

theorem u8n {x : Nat} (h : x < 256) : ((UInt8.ofNat x).toNat : Int) = (x : Int) := by
  rw [UInt8.toNat_ofNat']; omega
set_option maxRecDepth 100000 in
theorem s_RuneText (n : Int) (w : World) : Calls Tryd.prog 13 #[.int .i64 n] w fun e w' => e = .returned (.string (runeT n)) ∧ Below w.heap.size w w' := by
  cases h : runeOkB n
  · have H := Lib.hid h
    have HT : Hid (runeT n = ⟨#[]⟩) := if_neg (by rw [h]; decide)
    clear h
    go_enter Tryd.func13, Tryd.ntmps13
    go_wp2_with (go_at_call 17; refine (s_RuneOk _ _).mono ?_; rintro e w' ⟨rfl, rfl⟩; rw [H.out])
    go_ret
    exact ⟨ret_bytes HT.out.symm, Below.refl _ _⟩
  · have H := Lib.hid h
    obtain ⟨h0, h1, _⟩ := rok_parts h
    have hv := rok_valid h
    obtain ⟨m, rfl⟩ : ∃ m : Nat, n = (m : Int) := ⟨n.toNat, by omega⟩
    have HE : Hid (runeT (m : Int) = Utf8.encode (m : Int)) := if_pos h
    clear h
    by_cases h2 : m < 128
    · skip
      have HT := HE.out.trans (enc1 h2 hv)
      have hcv := fun w : World => conv_new w [UInt8.ofNat m] 1 rfl
      simp only [bc, List.map_cons, List.map_nil, show ((UInt8.ofNat (m)).toNat : Int) = (m : Int) by rw [u8n (by omega)]] at hcv
      obtain ⟨x0, hx0⟩ : ∃ x, UInt8.ofNat m = x := ⟨_, rfl⟩
      rw [hx0] at hcv HT
      clear hx0
      have k1 : (m : Int) < 128 := by omega
      have HT2 := Lib.hid HT
      clear HT
      clear hv HE h2
      generalize hmn : (m : Int) = n at *
      clear hmn
      go_enter Tryd.func13, Tryd.ntmps13
      go_wp2_with (go_at_call 17; refine (s_RuneOk _ _).mono ?_; rintro e w' ⟨rfl, rfl⟩; rw [H.out])
      go_ret
      exact ⟨ret_bytes HT2.out.symm, by go_grown⟩
    · by_cases h3 : m < 2048
      · skip
        have HT := HE.out.trans (enc2 h2 h3 hv)
        have hcv := fun w : World => conv_new w [UInt8.ofNat (192 + m / 64), UInt8.ofNat (128 + m % 64)] 2 rfl
        simp only [bc, List.map_cons, List.map_nil, show ((UInt8.ofNat (192 + m / 64)).toNat : Int) = 192 + (m : Int) / 64 by rw [u8n (by omega)]; omega, show ((UInt8.ofNat (128 + m % 64)).toNat : Int) = 128 + (m : Int) % 64 by rw [u8n (by omega)]; omega] at hcv
        obtain ⟨x0, hx0⟩ : ∃ x, UInt8.ofNat (192 + m / 64) = x := ⟨_, rfl⟩
        rw [hx0] at hcv HT
        obtain ⟨x1, hx1⟩ : ∃ x, UInt8.ofNat (128 + m % 64) = x := ⟨_, rfl⟩
        rw [hx1] at hcv HT
        clear hx0 hx1
        have k1 : ¬ (m : Int) < 128 := by omega
        have k2 : (m : Int) < 2048 := by omega
        have HT2 := Lib.hid HT
        clear HT
        clear hv HE h2 h3
        generalize hmn : (m : Int) = n at *
        clear hmn
        go_enter Tryd.func13, Tryd.ntmps13
        go_wp2_with (go_at_call 17; refine (s_RuneOk _ _).mono ?_; rintro e w' ⟨rfl, rfl⟩; rw [H.out])
        go_ret
        exact ⟨ret_bytes HT2.out.symm, by go_grown⟩
      · by_cases h4 : m < 65536
        · skip
          have HT := HE.out.trans (enc3 h3 h4 hv)
          have hcv := fun w : World => conv_new w [UInt8.ofNat (224 + m / 4096), UInt8.ofNat (128 + m / 64 % 64), UInt8.ofNat (128 + m % 64)] 3 rfl
          simp only [bc, List.map_cons, List.map_nil, show ((UInt8.ofNat (224 + m / 4096)).toNat : Int) = 224 + (m : Int) / 4096 by rw [u8n (by omega)]; omega, show ((UInt8.ofNat (128 + m / 64 % 64)).toNat : Int) = 128 + (m : Int) / 64 % 64 by rw [u8n (by omega)]; omega, show ((UInt8.ofNat (128 + m % 64)).toNat : Int) = 128 + (m : Int) % 64 by rw [u8n (by omega)]; omega] at hcv
          obtain ⟨x0, hx0⟩ : ∃ x, UInt8.ofNat (224 + m / 4096) = x := ⟨_, rfl⟩
          rw [hx0] at hcv HT
          obtain ⟨x1, hx1⟩ : ∃ x, UInt8.ofNat (128 + m / 64 % 64) = x := ⟨_, rfl⟩
          rw [hx1] at hcv HT
          obtain ⟨x2, hx2⟩ : ∃ x, UInt8.ofNat (128 + m % 64) = x := ⟨_, rfl⟩
          rw [hx2] at hcv HT
          clear hx0 hx1 hx2
          have k1 : ¬ (m : Int) < 128 := by omega
          have k2 : ¬ (m : Int) < 2048 := by omega
          have k3 : (m : Int) < 65536 := by omega
          obtain ⟨q0, e0⟩ : ∃ q : Nat, (m : Int) / 4096 = (q : Int) := ⟨m / 4096, by omega⟩
          obtain ⟨q1, e1⟩ : ∃ q : Nat, (m : Int) / 64 % 64 = (q : Int) := ⟨m / 64 % 64, by omega⟩
          obtain ⟨q2, e2⟩ : ∃ q : Nat, (m : Int) % 64 = (q : Int) := ⟨m % 64, by omega⟩
          have b0 : (q0 : Int) ≤ 15 := by omega
          have b1 : (q1 : Int) ≤ 63 := by omega
          have b2 : (q2 : Int) ≤ 63 := by omega
          rw [e0, e1, e2] at hcv
          have HT2 := Lib.hid HT
          clear HT
          clear hv HE h2 h3 h4
          generalize hmn : (m : Int) = n at *
          clear hmn
          go_enter Tryd.func13, Tryd.ntmps13
          go_wp2_with (go_at_call 17; refine (s_RuneOk _ _).mono ?_; rintro e w' ⟨rfl, rfl⟩; rw [H.out])
          go_ret
          exact ⟨ret_bytes HT2.out.symm, by go_grown⟩
        · skip
          have HT := HE.out.trans (enc4 h4 hv)
          have hcv := fun w : World => conv_new w [UInt8.ofNat (240 + m / 262144), UInt8.ofNat (128 + m / 4096 % 64), UInt8.ofNat (128 + m / 64 % 64), UInt8.ofNat (128 + m % 64)] 4 rfl
          simp only [bc, List.map_cons, List.map_nil, show ((UInt8.ofNat (240 + m / 262144)).toNat : Int) = 240 + (m : Int) / 262144 by rw [u8n (by omega)]; omega, show ((UInt8.ofNat (128 + m / 4096 % 64)).toNat : Int) = 128 + (m : Int) / 4096 % 64 by rw [u8n (by omega)]; omega, show ((UInt8.ofNat (128 + m / 64 % 64)).toNat : Int) = 128 + (m : Int) / 64 % 64 by rw [u8n (by omega)]; omega, show ((UInt8.ofNat (128 + m % 64)).toNat : Int) = 128 + (m : Int) % 64 by rw [u8n (by omega)]; omega] at hcv
          obtain ⟨x0, hx0⟩ : ∃ x, UInt8.ofNat (240 + m / 262144) = x := ⟨_, rfl⟩
          rw [hx0] at hcv HT
          obtain ⟨x1, hx1⟩ : ∃ x, UInt8.ofNat (128 + m / 4096 % 64) = x := ⟨_, rfl⟩
          rw [hx1] at hcv HT
          obtain ⟨x2, hx2⟩ : ∃ x, UInt8.ofNat (128 + m / 64 % 64) = x := ⟨_, rfl⟩
          rw [hx2] at hcv HT
          obtain ⟨x3, hx3⟩ : ∃ x, UInt8.ofNat (128 + m % 64) = x := ⟨_, rfl⟩
          rw [hx3] at hcv HT
          clear hx0 hx1 hx2 hx3
          have k1 : ¬ (m : Int) < 128 := by omega
          have k2 : ¬ (m : Int) < 2048 := by omega
          have k3 : ¬ (m : Int) < 65536 := by omega
          obtain ⟨q0, e0⟩ : ∃ q : Nat, (m : Int) / 262144 = (q : Int) := ⟨m / 262144, by omega⟩
          obtain ⟨q1, e1⟩ : ∃ q : Nat, (m : Int) / 4096 % 64 = (q : Int) := ⟨m / 4096 % 64, by omega⟩
          obtain ⟨q2, e2⟩ : ∃ q : Nat, (m : Int) / 64 % 64 = (q : Int) := ⟨m / 64 % 64, by omega⟩
          obtain ⟨q3, e3⟩ : ∃ q : Nat, (m : Int) % 64 = (q : Int) := ⟨m % 64, by omega⟩
          have b0 : (q0 : Int) ≤ 4 := by omega
          have b1 : (q1 : Int) ≤ 63 := by omega
          have b2 : (q2 : Int) ≤ 63 := by omega
          have b3 : (q3 : Int) ≤ 63 := by omega
          rw [e0, e1, e2, e3] at hcv
          have HT2 := Lib.hid HT
          clear HT
          clear hv HE h2 h3 h4
          generalize hmn : (m : Int) = n at *
          clear hmn
          go_enter Tryd.func13, Tryd.ntmps13
          go_wp2_with (go_at_call 17; refine (s_RuneOk _ _).mono ?_; rintro e w' ⟨rfl, rfl⟩; rw [H.out])
          go_ret
          exact ⟨ret_bytes HT2.out.symm, by go_grown⟩

end Go.Proofs.YtedmfoogllekeaaDoor
