/-
  Hex (both sides) and its law. No conditions.
-/
import Derived.Test.YtpbflceekikbiaaDoorBytes
import Derived.WalkSmall
import Derived.Deep.RegionHeld3
import Derived.Deep.AppendLies
import Derived.IntWalk
namespace Go.Proofs.YtpbflceekikbiaaDoor
open Go.ChangeShapes Go.WideShapes Go.ChangeAt Go.RowKit

def figU (d : Nat) : UInt8 := if d < 10 then UInt8.ofNat (48 + d) else UInt8.ofNat (87 + d)
def hexL (l : List UInt8) : List UInt8 := l.flatMap fun c => [figU (c.toNat / 16), figU (c.toNat % 16)]
theorem hexL_snoc (l : List UInt8) {k : Nat} (h : k < l.length) : hexL (l.take (k + 1)) = hexL (l.take k) ++ [figU (l[k].toNat / 16), figU (l[k].toNat % 16)] := by
  rw [List.take_succ_eq_append_getElem h]
  unfold hexL
  rw [List.flatMap_append]
  simp
theorem hexL_len : ∀ l : List UInt8, (hexL l).length = 2 * l.length
  | [] => rfl
  | c :: l => by
    have e : hexL (c :: l) = [figU (c.toNat / 16), figU (c.toNat % 16)] ++ hexL l := by unfold hexL; rw [List.flatMap_cons]
    rw [e, List.length_append, hexL_len l]
    simp
    omega
def hexR (s : ByteArray) : ByteArray × Bool := if s.size ≤ 20000 then (⟨(hexL s.data.toList).toArray⟩, true) else (⟨#[]⟩, false)
theorem ret_hb {a : ByteArray} {b : Bool} {r : ByteArray × Bool} (h : r = (a, b)) : Ending.returned (.tuple #[.string a, .bool b]) = .returned (.tuple #[.string r.1, .bool r.2]) := by rw [h]
theorem figU_lo {d : Nat} (h : d < 10) : ((figU d).toNat : Int) = 48 + (d : Int) := by
  unfold figU
  rw [if_pos h, UInt8.toNat_ofNat']
  omega
theorem figU_hi {d : Nat} (h0 : ¬ d < 10) (h : d < 16) : ((figU d).toNat : Int) = 87 + (d : Int) := by
  unfold figU
  rw [if_neg h0, UInt8.toNat_ofNat']
  omega

theorem s_l01Figure (d : Nat) (hd : d < 16) (w : World) : Calls Tryd.prog 44 #[.int .i64 (d : Int)] w fun e w' => e = .returned (.int .u8 ((figU d).toNat : Int)) ∧ w = w' := by
  by_cases h : d < 10
  · have hf := figU_lo h
    obtain ⟨x, hx⟩ : ∃ x : Int, ((figU d).toNat : Int) = x := ⟨_, rfl⟩
    rw [hx] at hf ⊢
    have HF := Lib.hid hf
    have hw : IntKind.u8.wrap (48 + (d : Int)) = 48 + (d : Int) := by simp [IntKind.wrap, IntKind.signed, IntKind.bits]; omega
    clear hx hf
    go_enter Tryd.func44, Tryd.ntmps44
    go_wp2
    go_ret
    exact ⟨by rw [HF.out]; rfl, rfl⟩
  · have hf := figU_hi h hd
    obtain ⟨x, hx⟩ : ∃ x : Int, ((figU d).toNat : Int) = x := ⟨_, rfl⟩
    rw [hx] at hf ⊢
    have HF := Lib.hid hf
    clear hx hf
    go_enter Tryd.func44, Tryd.ntmps44
    go_wp2
    go_ret
    exact ⟨by rw [HF.out]; show Ending.returned (.int .u8 (97 + (d : Int) - 10)) = _; rw [show (97 + (d : Int) - 10) = 87 + (d : Int) by omega], rfl⟩

/-- The table of figures, read at a place. -/
def figs : ByteArray := ⟨#[48, 49, 50, 51, 52, 53, 54, 55, 56, 57, 97, 98, 99, 100, 101, 102]⟩
theorem figs_at : ∀ d : Fin 16, (figs[d.val]'(by have := d.isLt; show d.val < 16; omega)) = figU d.val := by decide
theorem run_fig (w : World) (d : Nat) (hd : d < 16) (k : IntKind) (i : Int) (hi : i = (d : Int)) : (Instr.index 9 (.string figs) (.int k i)).run Tryd.prog w = .ok (.int .u8 ((figU d).toNat : Int)) w := by
  subst hi
  rw [run_index_string w 9 figs k (d : Int) Tryd.underlying9, dif_pos ⟨by omega, by show (d : Int) < 16; omega⟩]
  have := figs_at ⟨d, hd⟩
  simp only [Int.toNat_natCast]
  rw [this]

theorem step_push2 {ops : Array Oper} {o : Oper} {a : Act} {K : Act → World → Prop} {Q : Exit → Act → World → Prop} {E : Prop} (hgd : o.guard = none) (s x : Operand)
    (ho : o.op = .call { callee := .builtin .append, args := #[s, x], argTypes := #[27, 27] })
    {w0 : World} {B : Nat} {v : Value} {l : List UInt8} (hown : OwnB w0 B v l) (b c : UInt8) (X Y : Int) (hX : X = (b.toNat : Int)) (hY : Y = (c.toNat : Int))
    (hs : a.eval s = v) (hx : a.eval x = .slice (some ⟨w0.heap.size, 0, none⟩) 2 2) (hl : l.length + 2 ≤ 140737488355328) (hB : B ≤ w0.heap.size)
    (h : ∀ v' w', OwnB w' B v' (l ++ [b, c]) → Below B w0 w' → K (a.put o.dst v') w') :
    if Region.wanted o (yielded ops a.tmps) = true then Oper.wp Tryd.prog o a (w0.alloc (.cells #[.int .u8 X, .int .u8 Y] 5)).drew K Q else E := by
  subst hX hY
  obtain ⟨i0, hi, hz0, hz1, hz2⟩ := info_parts infoByte
  refine step_append_lies _ hgd s x 27 ho B 5 i0 (.int .u8 0) 1 1 Tryd.underlying27 hi hz0 hz1 hz2 rfl (by decide) v l.length (bc l) hs ((hown.alloc _).drew) ⟨w0.heap.size, 0, none⟩ 2 2 (bc [b, c]) hx rfl
    (World.news_of_block (cs := #[.int .u8 (b.toNat : Int), .int .u8 (c.toNat : Int)]) (t := 5) (fr := (0, 0)) (heap_alloc_new w0 _)) (bc_one _) (by omega) (by unfold maxLen; omega) (by omega) (by show B ≤ (w0.alloc _).heap.size; simp; omega) (w0.heap.size + 1) (by show (w0.alloc _).heap.size = _; simp) ?_
  intro g cap w' hown' hg _ _
  refine h _ w' ?_ ?_
  · unfold OwnB
    rw [bc_append, List.length_append]
    exact hown'
  · exact (((Below.refl B w0).alloc hB _).drew).grown hg (by show B ≤ (w0.alloc _).heap.size; simp; omega) (fun k hk => (hown.lt k hk).1)


theorem i_Hex (s : ByteArray) (hs : s.size ≤ 2147483648) (w : World) : Calls Tryd.prog 31 #[.string s] w fun e w' => e = .returned (.tuple #[.string (hexR s).1, .bool (hexR s).2]) ∧ Below w.heap.size w w' := by
  by_cases hb : (20000 : Int) < (s.size : Int)
  · have HR : Hid (hexR s = (⟨#[]⟩, false)) := if_neg (by omega)
    go_enter Tryd.func31, Tryd.ntmps31
    go_wp2_with fail
    go_ret2
    exact ⟨ret_hb HR.out, by go_grown⟩
  · have HR : Hid (hexR s = (⟨(hexL s.data.toList).toArray⟩, true)) := if_pos (by omega)
    obtain ⟨i0, hi, hz0, hz1, hz2⟩ := info_parts infoByte
    have hmk : ∀ u : World, (Instr.makeSlice 27 (.int .i64 0) (.int .i64 (2 * (s.size : Int)))).run Tryd.prog u =
        .ok (.slice (some ⟨u.heap.size, 0, none⟩) 0 (2 * s.size)) (u.alloc (.cells (madeCells #[.int .u8 0] (2 * s.size)) 5)) := fun u => by
      have h := run_make (P := Tryd.prog) u 27 5 i0 (.int .u8 0) Tryd.underlying27 hi hz0 .i64 .i64 0 (2 * (s.size : Int)) (by omega) (by omega) (by rw [hz2]; omega) (by omega)
      have e : (2 * (s.size : Int)).toNat = 2 * s.size := by omega
      rw [e] at h
      simpa [hz1, Value.cells] using h
    go_enter Tryd.func31, Tryd.ntmps31
    go_wp2_with fail
    go_loopw [4, 15] (fun v i wr => ∃ k : Nat, i = .int .i64 k ∧ k ≤ s.size ∧ OwnB wr w.heap.size v (hexL (s.data.toList.take k)) ∧ Below w.heap.size w wr) (fun _ i _ => s.size - (intOf i).toNat)
    case atStart => exact ⟨0, rfl, by omega, OwnB.made w _ (2 * s.size) (madeCells #[.int .u8 0] (2 * s.size)) (Nat.le_refl _) (by unfold maxLen; omega) (by simp [madeCells]), by go_grown⟩
    case round =>
      obtain ⟨k, rfl, hk, hown, hbel⟩ := hrel
      clear hmk
      by_cases hlt : k < s.size
      · have hkl : k < s.data.toList.length := by simpa using hlt
        have hsn := hexL_snoc s.data.toList hkl
        have e0 : s.data.toList[k] = s[k] := by simp; rfl
        rw [e0] at hsn
        have hlt' : (k : Int) < (s.size : Int) := by omega
        obtain ⟨c, hc⟩ : ∃ c : Nat, s[k].toNat = c := ⟨_, rfl⟩
        have hc256 : c < 256 := by rw [← hc]; exact UInt8.toNat_lt _
        rw [hc] at hsn
        have hX : (hexL (s.data.toList.take k)).length ≤ 40000 := by rw [hexL_len]; simp; omega
        obtain ⟨X, hX'⟩ : ∃ X, hexL (s.data.toList.take k) = X := ⟨_, rfl⟩
        rw [hX'] at hsn hown hX
        obtain ⟨a, ha⟩ : ∃ a, figU (c / 16) = a := ⟨_, rfl⟩
        obtain ⟨b, hb'⟩ : ∃ b, figU (c % 16) = b := ⟨_, rfl⟩
        rw [ha, hb'] at hsn
        obtain ⟨A, hA⟩ : ∃ A, c / 16 = A := ⟨_, rfl⟩
        obtain ⟨B, hB⟩ : ∃ B, c % 16 = B := ⟨_, rfl⟩
        have hA16 : A < 16 := by omega
        have hB16 : B < 16 := by omega
        rw [hA] at ha
        rw [hB] at hb'
        have f1 : ∀ w : World, (Instr.index 9 (.string ⟨#[48, 49, 50, 51, 52, 53, 54, 55, 56, 57, 97, 98, 99, 100, 101, 102]⟩) (.int .u8 (A : Int))).run Tryd.prog w = .ok (.int .u8 (a.toNat : Int)) w := fun w => by rw [← ha]; exact run_fig w A hA16 .u8 _ rfl
        have f2 : ∀ w : World, (Instr.index 9 (.string ⟨#[48, 49, 50, 51, 52, 53, 54, 55, 56, 57, 97, 98, 99, 100, 101, 102]⟩) (.int .u8 (B : Int))).run Tryd.prog w = .ok (.int .u8 (b.toNat : Int)) w := fun w => by rw [← hb']; exact run_fig w B hB16 .u8 _ rfl
        have e2 : Int.tdiv (c : Int) 16 = (A : Int) := by rw [Int.tdiv_eq_ediv_of_nonneg (by omega)]; omega
        have e3 : IntKind.u8.wrap (A : Int) = (A : Int) := by simp [IntKind.wrap, IntKind.signed, IntKind.bits]; omega
        have e4 : Int.tmod (c : Int) 16 = (B : Int) := by rw [Int.tmod_eq_emod_of_nonneg (by omega)]; omega
        have e5 : IntKind.u8.wrap (B : Int) = (B : Int) := by simp [IntKind.wrap, IntKind.signed, IntKind.bits]; omega
        have HS := Lib.hid hsn
        have HO := Lib.hid hown
        have hci : (s[k].toNat : Int) = (c : Int) := by rw [hc]
        clear hsn hX' ha hb' hown hc hA hB
        go_wp2_with fail
        go_region_held3 (fun _ : World => True) (exact trivial) ((refine step_push2 (by rfl) _ _ (by rfl) HO.out a b _ _ rfl rfl (by rfl) (by rfl) (by omega) hbel.size ?_; intro v3 w3 hown3 hb3))
        all_goals
          have hb4 := hbel.trans hb3
          clear hb3
          go_wp2_with fail
          go_roundw
          case rel => exact ⟨k + 1, by go_num, by omega, by rw [HS.out]; exact hown3, hb4⟩
          case measure => simp [intOf]; omega
      · have HE : Hid (s.data.toList.take k = s.data.toList) := List.take_of_length_le (by simp; omega)
        have hcv := hown.conv
        clear hown
        go_wp2_with fail
        go_ret2
        exact ⟨ret_hb (by rw [HR.out, HE.out]), hbel⟩

end Go.Proofs.YtpbflceekikbiaaDoor
