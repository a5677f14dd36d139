/-
  Drawn numbers, texts and places (spec.l02Num, DrawVarText, DrawShortText, DrawPlaces). No conditions but the bound on the code.
-/
import Derived.Test.YtpbflceekikbiaaDoorCur2
namespace Go.Proofs.YtpbflceekikbiaaDoor
open Go.RowKit

theorem infoInt : (Tryd.prog.info? 3).map (fun i => (i.zero, i.size, i.bytes)) = some (some (.int .i64 0), 1, 8) := by kernel_rfl
def ic (l : List Int) : List Value := l.map (Value.int .i64)
theorem ic_append (a b : List Int) : ic (a ++ b) = ic a ++ ic b := by simp [ic]
def OwnI (w : World) (B : Nat) (v : Value) (l : List Int) : Prop := w.ownsRow B 3 1 v l.length (ic l)
theorem OwnI.made (w : World) (B : Nat) (cap : Nat) (cur : Array Value) (hB : B ≤ w.heap.size) (hm : cap ≤ maxLen) (hc : cur.size = cap) : OwnI (w.alloc (.cells cur 3)) B (.slice (some ⟨w.heap.size, 0, none⟩) 0 cap) [] :=
  World.ownsRow_made w cur cap hB hm (by omega)
theorem OwnI.below {w w' : World} {B : Nat} {v : Value} {l : List Int} (h : OwnI w B v l) (hb : ∀ k, v.ownBlock = some k → w'.heap[k]? = w.heap[k]?) : OwnI w' B v l := by
  refine ⟨h.1, ?_⟩
  rcases h.2 with hn | ⟨g, cap, cur, rfl, hB, hg, rest⟩
  · exact .inl hn
  · exact .inr ⟨g, cap, cur, rfl, hB, by rw [hb g rfl]; exact hg, rest⟩
theorem wpList_pushI {ops : Array Oper} {rest : List Oper} {o : Oper} {a : Act} {Q : Exit → Act → World → Prop} (hgd : o.guard = none)
    {w0 : World} {B : Nat} {v : Value} {l : List Int} (hown : OwnI w0 B v l) (X : Int) (s x : Operand)
    (ho : o.op = .call { callee := .builtin .append, args := #[s, x], argTypes := #[33, 33] })
    (hs : a.eval s = v) (hx : a.eval x = .slice (some ⟨w0.heap.size, 0, none⟩) 1 1)
    (hl : l.length + 1 ≤ 1000000000) (hB : B ≤ w0.heap.size)
    (K : ∀ v' w', OwnI w' B v' (l ++ [X]) → Below B w0 w' → wpList Tryd.prog ops Q rest (a.put o.dst v') w') :
    wpList Tryd.prog ops Q (o :: rest) a (w0.alloc (.cells #[.int .i64 X] 3)) := by
  obtain ⟨i0, hi, hz0, hz1, hz2⟩ := info_parts infoInt
  refine wpList_append_own _ hgd s x 33 ho B 3 i0 (.int .i64 0) 1 8 Tryd.underlying33 hi hz0 hz1 hz2 rfl (by decide) v l.length (ic l) hs (hown.alloc _) ⟨w0.heap.size, 0, none⟩ 1 1 (ic [X]) hx rfl ?_ (ints_oneCell _ _) (by unfold maxLen; omega) (by omega) (by simp; omega) ?_
  · intro j u hj
    match j, hj with
    | 0, hj => simp [ic] at hj; subst hj; simp [Addr.add]
  · intro v' w' hown' hg _
    refine K v' w' ?_ ?_
    · unfold OwnI
      rw [ic_append, List.length_append]
      exact hown'
    · exact ((Below.refl B w0).alloc hB _).grown hg (by simp; omega) (fun k hk => (hown.lt k hk).1)

/-- The cells of a new row of integers. -/
theorem new_ints (w : World) (t : TypeId) (zs : List Int) (j : Nat) (hj : j < zs.length) : (w.alloc (.cells (zs.map (Value.int .i64)).toArray t)).cell? ⟨w.heap.size, j, none⟩ = some (.int .i64 (zs.getD j 0)) := by
  rw [cell_of_row _ w.heap.size j _ t (0, 0) (heap_alloc_new w _)]
  simp [List.getElem?_eq_getElem hj, List.getD]

def I64 (x : Int) : Prop := -9223372036854775808 ≤ x ∧ x ≤ 9223372036854775807
theorem i64_wrap (e : Int) : I64 (wrap64 e) := by unfold I64 wrap64; omega
theorem i64_among {zs : List Int} (h : ∀ z ∈ zs, I64 z) {x : Int} (hx : Among zs x) : I64 x := by
  obtain ⟨k, hk, rfl⟩ := hx
  have e : zs.getD k 0 = zs[k] := by simp [List.getD, List.getElem?_eq_getElem hk]
  rw [e]
  exact h _ (List.getElem_mem hk)
def l02L : List Int := [0, 1, -1, 9223372036854775807, 9223372036854775806, 4611686018427387904, 4611686018427387903, -9223372036854775808, 3037000499, 3037000500]
theorem l02L_in : ∀ z ∈ l02L, I64 z := by
  intro z hz
  simp only [l02L, List.mem_cons, List.mem_nil_iff, or_false] at hz
  unfold I64
  rcases hz with rfl | rfl | rfl | rfl | rfl | rfl | rfl | rfl | rfl | rfl <;> decide

theorem s_l02Num (w : World) (c : Nat) (a : Option Addr) (len cap : Nat) (hc : Cur w c a len cap) : Calls Tryd.prog 50 #[.pointer (some ⟨c, 0, none⟩)] w (NumP I64 w c a len cap) := by
  go_enter Tryd.func50, Tryd.ntmps50
  go_wp2_with fail
  refine (s_l01Below _ _ _ _ _ _ (by omega) hc).mono ?_
  rintro e w1 ⟨x, rfl, hx, hc1, hg1⟩
  have hcl := hc1.lt
  clear hx
  by_cases h0 : x = 0
  · have h0' : (x == 0) = true := beq_iff_eq.2 h0
    clear h0
    go_wp2_with fail
    refine (s_l01PickInt (w1.alloc (.cells (l02L.map (Value.int .i64)).toArray 3)) c a len cap w1.heap.size 10 l02L rfl (by decide) (by decide) (by omega) (fun j hj => new_ints w1 _ l02L j hj) (hc1.alloc _)).mono ?_
    rintro e w2 ⟨y, rfl, hy, hc2, hg2⟩
    go_wp2_with fail
    go_ret
    exact ⟨y, rfl, i64_among l02L_in hy, hc2, grown_trans hg1 (grown_trans (World.grownBy_alloc _ _ _) hg2)⟩
  · have h0' : (x == 0) = false := beq_eq_false_iff_ne.2 h0
    clear h0
    by_cases h1 : x = 1
    · have h1' : (x == 1) = true := beq_iff_eq.2 h1
      clear h1
      go_wp2_with fail
      refine (s_l01Below _ _ _ _ _ _ (by omega) hc1).mono ?_
      rintro e w2 ⟨y, rfl, hy, hc2, hg2⟩
      clear hy
      go_wp2_with fail
      refine (s_l01Below _ _ _ _ _ _ (by omega) hc2).mono ?_
      rintro e w3 ⟨z, rfl, hz, hc3, hg3⟩
      obtain ⟨hz0, hz1⟩ := hz
      have hz2 : z ≤ 1000000000 := by omega
      clear hz1
      go_wp2_with fail
      go_ret
      exact ⟨_, rfl, i64_wrap _, hc3, grown_trans hg1 (grown_trans hg2 hg3)⟩
    · have h1' : (x == 1) = false := beq_eq_false_iff_ne.2 h1
      clear h1
      go_wp2_with fail
      refine (s_l01Below _ _ _ _ _ _ (by omega) hc1).mono ?_
      rintro e w2 ⟨y, rfl, hy, hc2, hg2⟩
      have hI : Hid (I64 y) := by have := hy.1; have := hy.2; unfold Hid I64; omega
      clear hy
      go_wp2_with fail
      go_ret
      exact ⟨y, rfl, hI.out, hc2, grown_trans hg1 hg2⟩

def DrawNP (R : Int → Prop) (w : World) (e : Ending) (w' : World) : Prop := ∃ x : Int, e = .returned (.int .i64 x) ∧ R x ∧ Below w.heap.size w w'

def DrawTP (w : World) (e : Ending) (w' : World) : Prop := ∃ l : List UInt8, e = .returned (.string ⟨l.toArray⟩) ∧ l.length ≤ 20001 ∧ Below w.heap.size w w'
def shortL : List Int := [0, 1, 5, 127, 128, 300]
theorem shortL_in : ∀ z ∈ shortL, 0 ≤ z ∧ z ≤ 300 := by
  intro z hz
  simp only [shortL, List.mem_cons, List.mem_nil_iff, or_false] at hz
  rcases hz with rfl | rfl | rfl | rfl | rfl | rfl <;> decide
theorem among_in {P : Int → Prop} {zs : List Int} (h : ∀ z ∈ zs, P z) {x : Int} (hx : Among zs x) : P x := by
  obtain ⟨k, hk, rfl⟩ := hx
  have e : zs.getD k 0 = zs[k] := by simp [List.getD, List.getElem?_eq_getElem hk]
  rw [e]
  exact h _ (List.getElem_mem hk)

def PlacesP (w : World) (e : Ending) (w' : World) : Prop := ∃ (g cap : Nat) (zs : Nat → Int), e = .returned (.slice (some ⟨g, 0, none⟩) 12 cap) ∧ w.heap.size ≤ g ∧ (∀ j, j < 12 → w'.cell? ⟨g, j, none⟩ = some (.int .i64 (zs j))) ∧ (∀ j : Nat, 0 ≤ zs j ∧ zs j < 10000) ∧ Below w.heap.size w w'
theorem places_of {w : World} {B : Nat} {v : Value} {l : List Int} (h : OwnI w B v l) (hl : l.length = 12) : ∃ g cap, v = .slice (some ⟨g, 0, none⟩) 12 cap ∧ B ≤ g ∧ ∀ j, j < 12 → w.cell? ⟨g, j, none⟩ = some (.int .i64 (l.getD j 0)) := by
  have h' := h
  rcases h.2 with ⟨_, h0⟩ | ⟨g, cap, cur, rfl, hB, -⟩
  · omega
  · refine ⟨g, cap, by rw [hl], hB, fun j hj => ?_⟩
    have := World.ownsRow.cellAt h' j (by omega)
    rw [this]
    simp [ic, List.getD, List.getElem?_eq_getElem (show j < l.length by omega)]
theorem s_DrawPlaces (w : World) (a : Option Addr) (len cap : Nat) (hm : len ≤ 1048576) (hcode : Code8 w a len) : Calls Tryd.prog 30 #[.slice a len cap] w (PlacesP w) := by
  have HC := Lib.hid hcode
  clear hcode
  go_enter Tryd.func30, Tryd.ntmps30
  go_wp2_with fail
  refine (s_l01New w a len cap hm HC.out).mono ?_
  rintro e w1 ⟨c, rfl, hcb, hc1, hb1⟩
  have hcl := hc1.lt
  have hsz1 := hb1.size
  go_wp2_with fail
  go_loopw [4, 5] (fun v i wr => ∃ l : List Int, l.length ≤ 12 ∧ i = .int .i64 (l.length : Int) ∧ OwnI wr w1.heap.size v l ∧ (∀ z ∈ l, 0 ≤ z ∧ z < 10000) ∧ Cur wr c a len cap ∧ w1.grownBy wr (some c)) (fun _ i _ => 12 - (intOf i).toNat)
  case atStart => exact ⟨[], by simp, rfl, OwnI.made w1 _ 0 #[] (Nat.le_refl _) (by decide) rfl, by simp, hc1.alloc _, World.grownBy_alloc _ _ _⟩
  case round =>
    obtain ⟨l, hl, rfl, hown, hin, hcr, hg⟩ := hrel
    obtain ⟨k, hk⟩ : ∃ k, l.length = k := ⟨_, rfl⟩
    have HK := Lib.hid hk
    have HIN := Lib.hid hin
    rw [hk] at hl ⊢
    clear hk hin
    by_cases hlt : k < 12
    · have hlt' : (k : Int) < 12 := by omega
      go_wp2_with fail
      refine (s_l01Below _ _ _ _ _ _ (by omega) hcr).mono ?_
      rintro e w2 ⟨x, rfl, hx, hc2, hg2⟩
      have hx0 := hx.1
      have hx1 : x < 10000 := by have := hx.2; omega
      clear hx
      have hown2 : OwnI w2 w1.heap.size _ l := hown.below (fun g hgv => by
        have := World.ownsRow.lt hown g hgv
        exact hg2.block g this.2 (by simp; omega))
      have hsz : w1.heap.size ≤ w2.heap.size := Nat.le_trans hg.size hg2.size
      have hl2 : l.length + 1 ≤ 1000000000 := by rw [HK.out]; omega
      have hgg := grown_trans hg hg2
      clear hown hcr hg hg2
      go_wp2_with (at_builtin; refine wpList_pushI rfl hown2 x _ _ rfl rfl rfl hl2 hsz ?_; intro v3 w3 hown3 hb3)
      have hc3 := hc2.below hb3 hcl
      have hg3 := grown_then hgg hb3
      have HIN3 : Hid (∀ z ∈ l ++ [x], 0 ≤ z ∧ z < 10000) := by
        intro z hz
        rcases List.mem_append.1 hz with h | h
        · exact HIN.out z h
        · rw [List.mem_singleton.1 h]; exact ⟨hx0, hx1⟩
      clear hgg hb3 hown2 hc2
      go_roundw
      case rel => exact ⟨l ++ [x], by simp [HK.out]; omega, by rw [List.length_append, HK.out]; go_num, hown3, HIN3.out, hc3, hg3⟩
      case measure => simp [intOf]; omega
    · have hlt' : ¬ (k : Int) < 12 := by omega
      obtain ⟨g, cp, rfl, hgB, hcells⟩ := places_of hown (by rw [HK.out]; omega)
      have HCE := Lib.hid hcells
      clear hcells
      go_wp2_with fail
      go_ret
      refine ⟨g, cp, fun j => l.getD j 0, rfl, by omega, HCE.out, fun j => ?_, hb1.trans (below_grown hg hcb hsz1)⟩
      rcases Nat.lt_or_ge j l.length with h | h
      · have e : l.getD j 0 = l[j] := by simp [List.getD, List.getElem?_eq_getElem h]
        show 0 ≤ l.getD j 0 ∧ l.getD j 0 < 10000
        rw [e]
        exact HIN.out _ (List.getElem_mem h)
      · have e : l.getD j 0 = 0 := by simp [List.getD, List.getElem?_eq_none h]
        show 0 ≤ l.getD j 0 ∧ l.getD j 0 < 10000
        rw [e]
        decide

theorem l_big (w : World) (a : Option Addr) (len cap : Nat) (_hm : len ≤ 9223372036854775807) : Calls Tryd.prog 25 #[.slice a len cap] w fun e w' => e = .returned (.bool (decide ((1048576 : Int) < (len : Int)))) ∧ w = w' := by
  go_enter Tryd.func25, Tryd.ntmps25
  go_wp2
  go_ret
  exact ⟨rfl, rfl⟩
theorem code_of {w : World} {a : Option Addr} {len cap : Nat} {zs : List Int} (h : IsRow .u8 w a len cap zs) : Code8 w a len := by
  intro j hj
  rcases h with ⟨_, rfl, _⟩ | ⟨x, rfl, hl, _, hz, hc, hw⟩
  · omega
  · have hjz : j < zs.length := by omega
    have h0 := hc 0 (by omega)
    have h1 := hc j hjz
    obtain ⟨b, off, spot⟩ := x
    have hspot : spot = none := by simpa [Addr.add] using World.cell?_spot h0
    subst hspot
    have hadd : (⟨b, off, none⟩ : Addr).add j = ⟨b, off + j, none⟩ := by unfold Addr.add; split <;> simp_all
    rw [hadd] at h1
    have e : zs.getD j 0 = zs[j] := by simp [List.getD, List.getElem?_eq_getElem hjz]
    have hb := bounds_u8 (hw _ (List.getElem_mem hjz))
    rw [← e] at hb
    exact ⟨b, off, zs.getD j 0, rfl, h1, hb.1, hb.2⟩
end Go.Proofs.YtpbflceekikbiaaDoor
