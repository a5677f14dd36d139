/-
  PartsOf (both sides) and its law. No conditions beyond the listed table's place.
-/
import Derived.Test.YtedmfoogllekeaaDoorFld
import Derived.Test.YtedmfoogllekeaaDoorStrs
import Derived.Test.YtedmfoogllekeaaDoorShelf
import Derived.Outline
import Derived.Lib.Hide
import Derived.WalkLawsBesides
import Derived.Deep.QuietTactic
import Derived.BigQuiet
import Derived.WalkSmall
import Derived.Lib.LaidTab
namespace Go.Proofs.YtedmfoogllekeaaDoor
open Go.ChangeShapes Go.WideShapes Go.ChangeAt Go.RowKit Go.Proofs.YtedmfoogllekeaaDoor.Fld

def mkB (l : List UInt8) : ByteArray := ⟨l.toArray⟩
def wordsL (s : ByteArray) : List ByteArray := (Lib.fields s.data.toList).map mkB
def partsR (s : ByteArray) : List ByteArray × Bool := if Line s.data.toList ∧ (wordsL s).length ≤ 12 then (wordsL s, true) else ([], false)
theorem parts_no {s : ByteArray} (h : ¬ Line s.data.toList) : partsR s = ([], false) := if_neg (fun h2 => h h2.1)
theorem parts_many {s : ByteArray} (h : 12 < (wordsL s).length) : partsR s = ([], false) := if_neg (fun h2 => by omega)
theorem parts_ok {s : ByteArray} (h : Line s.data.toList) (h2 : (wordsL s).length ≤ 12) : partsR s = (wordsL s, true) := if_pos ⟨h, h2⟩
def PartP (R : List ByteArray × Bool) (w : World) (e : Ending) (w' : World) : Prop := ∃ v, e = .returned (.tuple #[v, .bool R.2]) ∧ OwnS w' w.heap.size v R.1 ∧ Below w.heap.size w w'
theorem OwnS.made (w : World) (B : Nat) (hB : B ≤ w.heap.size) : OwnS (w.alloc (.cells #[] 9)) B (.slice (some ⟨w.heap.size, 0, none⟩) 0 0) [] :=
  ⟨rfl, .inr ⟨w.heap.size, 0, _, rfl, hB, heap_alloc_new w _, by decide, by decide, rfl, rfl⟩⟩
theorem OwnS.lies (w : World) (B : Nat) (hB : B ≤ w.heap.size) (l : List ByteArray) (hl : l.length ≤ 100000) : OwnS (w.alloc (.cells (l.map Value.string).toArray 9)) B (.slice (some ⟨w.heap.size, 0, none⟩) l.length l.length) l :=
  ⟨by simp, .inr ⟨w.heap.size, l.length, _, rfl, hB, heap_alloc_new w _, Nat.le_refl _, by unfold maxLen; omega, by simp, by rw [List.take_of_length_le] <;> simp⟩⟩
theorem wpList_pushS {ops : Array Oper} {rest : List Oper} {o : Oper} {a : Act} {Q : Exit → Act → World → Prop} (hgd : o.guard = none)
    {w0 : World} {B : Nat} {v : Value} {l : List ByteArray} (hown : OwnS w0 B v l) (X : ByteArray) (s x : Operand)
    (ho : o.op = .call { callee := .builtin .append, args := #[s, x], argTypes := #[25, 25] })
    (hs : a.eval s = v) (hx : a.eval x = .slice (some ⟨w0.heap.size, 0, none⟩) 1 1)
    (hl : l.length + 1 ≤ 100000000) (hB : B ≤ w0.heap.size)
    (K : ∀ v' w', OwnS w' B v' (l ++ [X]) → Below B w0 w' → wpList Tryd.prog ops Q rest (a.put o.dst v') w') :
    wpList Tryd.prog ops Q (o :: rest) a (w0.alloc (.cells #[.string X] 9)) := by
  obtain ⟨i0, hi, hz0, hz1, hz2⟩ := info_parts infoS
  refine wpList_append_own _ hgd s x 25 ho B 9 i0 (.string ⟨#[]⟩) 1 16 Tryd.underlying25 hi hz0 hz1 hz2 rfl (by decide) v l.length (l.map Value.string) hs (hown.alloc _) ⟨w0.heap.size, 0, none⟩ 1 1 ([X].map Value.string) hx rfl ?_ (by intro u hu; simp at hu; subst hu; rfl) (by unfold maxLen; omega) (by omega) (by simp; omega) ?_
  · intro j u hj
    match j, hj with
    | 0, hj => simp at hj; subst hj; simp [Addr.add]
  · intro v' w' hown' hg _
    refine K v' w' ?_ ?_
    · unfold OwnS
      rw [List.map_append, List.length_append]
      exact hown'
    · exact ((Below.refl B w0).alloc hB _).grown hg (by simp; omega) (fun k hk => (hown.lt k hk).1)
theorem ext_list {s : ByteArray} {b k : Nat} : mkB ((s.data.toList.drop b).take (k - b)) = s.extract b k := by
  apply ByteArray.ext
  apply Array.toList_inj.1
  rw [ByteArray.data_extract, Array.toList_extract]
  simp [mkB, List.extract]
theorem OwnS.below {w w' : World} {B C : Nat} {v : Value} {l : List ByteArray} (h : OwnS w B v l) (hb : Below C w w') (hC : w.heap.size ≤ C) : OwnS w' B v l := by
  refine ⟨h.1, ?_⟩
  rcases h.2 with hn | ⟨g, cap, cur, rfl, hB, hg, rest⟩
  · exact .inl hn
  · exact .inr ⟨g, cap, cur, rfl, hB, by rw [hb.block g (Nat.lt_of_lt_of_le (Array.getElem?_eq_some_iff.1 hg).1 hC)]; exact hg, rest⟩

theorem i_PartsOf (s : ByteArray) (hs : s.size ≤ 2147483648) (w : World) (hT : Lib.TabIs Tryd.prog w "strings.asciiSpace" .u8 Lib.asciiSpaceTab) : Calls Tryd.prog 8 #[.string s] w (PartP (partsR s) w) := by
  obtain ⟨R, hR⟩ : ∃ R, partsR s = R := ⟨_, rfl⟩
  rw [hR]
  have HT := Lib.hid hT
  clear hT
  by_cases hl : (600 : Int) < (s.size : Int)
  · have HU : Hid (R = ([], false)) := by
      rw [← hR]
      exact parts_no fun h => by have := h.1; have e : s.data.toList.length = s.size := Array.length_toList; omega
    clear hR
    go_enter Tryd.func8, Tryd.ntmps8
    go_wp2_with fail
    go_ret2
    rw [HU.out]
    exact ⟨_, rfl, ⟨rfl, .inl ⟨rfl, rfl⟩⟩, Below.refl _ _⟩
  · have HR := Lib.hid hR
    clear hR
    go_enter Tryd.func8, Tryd.ntmps8
    go_wp2_with fail
    go_loop [11] (fun i => ∃ k : Nat, i = .int .i64 (k : Int) ∧ k ≤ s.size ∧ Hid (∀ j, ∀ h : j < s.size, j < k → Prn s[j])) (fun i => s.size - (intOf i).toNat)
    case atStart => exact ⟨0, rfl, by omega, fun j h hj => absurd hj (by omega)⟩
    case round =>
      obtain ⟨k, rfl, hk, HP⟩ := hrel
      by_cases hlt : k < s.size
      · obtain ⟨x, hx⟩ : ∃ x : Int, (s[k].toNat : Int) = x := ⟨_, rfl⟩
        by_cases hp : 32 ≤ x ∧ x ≤ 126
        · have HN : Hid (∀ j, ∀ h : j < s.size, j < k + 1 → Prn s[j]) := fun j h hj => by
            by_cases e : j = k
            · subst e; unfold Prn; omega
            · exact HP.out j h (by omega)
          obtain ⟨h1, h2⟩ := hp
          clear HP
          go_wp2_with fail
          go_round
          case rel => exact ⟨k + 1, by go_num, by omega, HN⟩
          case measure => (simp [intOf]; try omega)
        · have HU : Hid (R = ([], false)) := by
            rw [← HR.out]
            refine parts_no fun h => ?_
            have hm : s[k] ∈ s.data.toList := by
              have : k < s.data.toList.length := by simpa using hlt
              have e : s.data.toList[k] = s[k] := by simp; rfl
              rw [← e]
              exact List.getElem_mem this
            have := h.2 _ hm
            unfold Prn at this
            omega
          have hp2 : x < 32 ∨ (32 ≤ x ∧ 126 < x) := by omega
          clear HP hp
          rcases hp2 with h1 | ⟨h1, h2⟩
          all_goals
            go_wp2_with fail
            go_ret2
            rw [HU.out]
            exact ⟨_, rfl, ⟨rfl, .inl ⟨rfl, rfl⟩⟩, Below.refl _ _⟩
      · obtain rfl : k = s.size := by omega
        have HL : Hid (Line s.data.toList) := by
          have e : s.data.toList.length = s.size := Array.length_toList
          refine ⟨by omega, fun c hc => ?_⟩
          obtain ⟨j, hj, rfl⟩ := List.mem_iff_getElem.1 hc
          have := HP.out j (by omega) (by omega)
          have e2 : s.data.toList[j] = s[j]'(by omega) := by simp; rfl
          rw [e2]
          exact this
        have HF := Lib.hid (Tryd.strings_Fields s w (by omega) (fun j b hb => by
          obtain ⟨hj, rfl⟩ := List.getElem?_eq_some_iff.1 hb
          have := (HL.out.2 _ (List.getElem_mem hj)).2
          omega) HT.out)
        have hW : Hid ((Lib.fields s.data.toList).map (fun l => Value.string ⟨l.toArray⟩) = (wordsL s).map Value.string) := by unfold Hid wordsL; rw [List.map_map]; rfl
        have hWl : (Lib.fields s.data.toList).length = (wordsL s).length := by unfold wordsL; rw [List.length_map]
        obtain ⟨n, hn⟩ : ∃ n, (wordsL s).length = n := ⟨_, rfl⟩
        rw [hW.out, hWl, hn] at HF
        have hnb : n ≤ 600 := by
          rw [← hn, ← hWl]
          exact Nat.le_trans (fields_le _) HL.out.1
        have HN := Lib.hid hn
        clear HP hW hWl hn
        go_wp2_with fail
        refine HF.out.mono ?_
        rintro e w1 ⟨rfl, rfl⟩
        by_cases h12 : (12 : Int) < (n : Int)
        · have HU : Hid (R = ([], false)) := by rw [← HR.out]; exact parts_many (by rw [HN.out]; omega)
          go_wp2_with fail
          go_ret2
          rw [HU.out]
          exact ⟨_, rfl, ⟨rfl, .inl ⟨rfl, rfl⟩⟩, by go_grown⟩
        · have HU : Hid (R = (wordsL s, true)) := by rw [← HR.out]; exact parts_ok HL.out (by rw [HN.out]; omega)
          have HO : Hid (OwnS (w.alloc (.cells ((wordsL s).map Value.string).toArray 9)) w.heap.size (.slice (some ⟨w.heap.size, 0, none⟩) n n) (wordsL s)) := by
            have := OwnS.lies w w.heap.size (Nat.le_refl _) (wordsL s) (by rw [HN.out]; omega)
            rw [HN.out] at this
            exact this
          go_wp2_with fail
          go_ret2
          rw [HU.out]
          exact ⟨_, rfl, HO.out, by go_grown⟩

/-- The reference's word: the words made so far, the piece that is open from b on, and what is to come. -/
def Goes2 (s : ByteArray) (L : List ByteArray) (b k : Nat) : Prop := L ++ (todo s.data.toList b k).map mkB = wordsL s ∧ L.length ≤ k ∧ ∀ j, ∀ h : j < s.size, j < k → Prn s[j]
def Done2 (s : ByteArray) (L : List ByteArray) : Prop := L = wordsL s ∧ Line s.data.toList
theorem at_list {s : ByteArray} {k : Nat} (h : k < s.size) : ∃ hk : k < s.data.toList.length, s.data.toList[k] = s[k] := ⟨by simpa using h, by simp; rfl⟩
theorem prn_on {s : ByteArray} {k : Nat} (h : k < s.size) (hp : Prn s[k]) (H : ∀ j, ∀ h : j < s.size, j < k → Prn s[j]) : ∀ j, ∀ h : j < s.size, j < k + 1 → Prn s[j] := fun j hj hjk => by
  by_cases e : j = k
  · subst e; exact hp
  · exact H j hj (by omega)
theorem goes2_more {s : ByteArray} {L : List ByteArray} {b k : Nat} (hb : b ≤ k) (h : k < s.size) (hp : Prn s[k]) (hc : s[k].toNat ≠ 32) (g : Goes2 s L b k) : Goes2 s L b (k + 1) := by
  obtain ⟨hk, e⟩ := at_list h
  refine ⟨?_, by have := g.2.1; omega, prn_on h hp g.2.2⟩
  rw [todo_more hb hk (by rw [e]; exact hp) (by rw [e]; exact hc)]
  exact g.1
theorem goes2_space {s : ByteArray} {L : List ByteArray} {k : Nat} (h : k < s.size) (hp : Prn s[k]) (hc : s[k].toNat = 32) (g : Goes2 s L k k) : Goes2 s L (k + 1) (k + 1) := by
  obtain ⟨hk, e⟩ := at_list h
  refine ⟨?_, by have := g.2.1; omega, prn_on h hp g.2.2⟩
  rw [todo_space hk (by rw [e]; exact hp) (by rw [e]; exact hc)]
  exact g.1
theorem goes2_word {s : ByteArray} {L : List ByteArray} {b k : Nat} (hb : b < k) (h : k < s.size) (hp : Prn s[k]) (hc : s[k].toNat = 32) (g : Goes2 s L b k) : Goes2 s (L ++ [s.extract b k]) (k + 1) (k + 1) := by
  obtain ⟨hk, e⟩ := at_list h
  refine ⟨?_, by have := g.2.1; simp; omega, prn_on h hp g.2.2⟩
  have := g.1
  rw [todo_word hb hk (by rw [e]; exact hp) (by rw [e]; exact hc), List.map_cons, ext_list] at this
  rw [List.append_assoc]
  exact this
theorem goes2_line {s : ByteArray} {L : List ByteArray} {b : Nat} (hs : s.size ≤ 600) (g : Goes2 s L b s.size) : Line s.data.toList := by
  have e : s.data.toList.length = s.size := Array.length_toList
  refine ⟨by omega, fun c hc => ?_⟩
  obtain ⟨j, hj, rfl⟩ := List.mem_iff_getElem.1 hc
  obtain ⟨_, e2⟩ := at_list (s := s) (k := j) (by omega)
  rw [e2]
  exact g.2.2 j (by omega) (by omega)
theorem done_last {s : ByteArray} {L : List ByteArray} {b : Nat} (hs : s.size ≤ 600) (hb : b < s.size) (g : Goes2 s L b s.size) : Done2 s (L ++ [s.extract b s.size]) := by
  have e : s.data.toList.length = s.size := Array.length_toList
  refine ⟨?_, goes2_line hs g⟩
  have := g.1
  rw [← e, todo_last (by omega), e, List.map_cons, ext_list] at this
  exact this
theorem done_none {s : ByteArray} {L : List ByteArray} (hs : s.size ≤ 600) (g : Goes2 s L s.size s.size) : Done2 s L := by
  have e : s.data.toList.length = s.size := Array.length_toList
  refine ⟨?_, goes2_line hs g⟩
  have := g.1
  rw [← e, todo_none, List.map_nil, List.append_nil] at this
  exact this
set_option maxHeartbeats 4000000 in
theorem s_PartsOf (s : ByteArray) (hs : s.size ≤ 2147483648) (w : World) : Calls Tryd.prog 7 #[.string s] w (PartP (partsR s) w) := by
  obtain ⟨R, hR⟩ : ∃ R, partsR s = R := ⟨_, rfl⟩
  rw [hR]
  by_cases hl : (600 : Int) < (s.size : Int)
  · have HU : Hid (R = ([], false)) := by
      rw [← hR]
      exact parts_no fun h => by have := h.1; have e : s.data.toList.length = s.size := Array.length_toList; omega
    clear hR
    go_enter Tryd.func7, Tryd.ntmps7
    go_wp2_with fail
    go_ret2
    rw [HU.out]
    exact ⟨_, rfl, OwnS.made w _ (Nat.le_refl _), by go_grown⟩
  · have HR := Lib.hid hR
    have HS6 : Hid (s.size ≤ 600) := by unfold Hid; omega
    clear hR
    have hO0 : OwnS (w.alloc (.cells #[] 9)) w.heap.size (.slice (some ⟨w.heap.size, 0, none⟩) 0 0) [] := OwnS.made w _ (Nat.le_refl _)
    have hB0 : Below w.heap.size w (w.alloc (.cells #[] 9)) := by go_grown
    go_enter Tryd.func7, Tryd.ntmps7
    go_wp2_with fail
    go_loopw [4, 5, 6] (fun v bb i wr => ∃ (L : List ByteArray) (b k : Nat), i = .int .i64 (k : Int) ∧ bb = .int .i64 (b : Int) ∧ b ≤ k ∧ k ≤ s.size + 1 ∧ OwnS wr w.heap.size v L ∧ Below w.heap.size w wr ∧ Hid (L.length ≤ 601 ∧ (k ≤ s.size → Goes2 s L b k) ∧ (s.size < k → Done2 s L))) (fun _ _ i _ => s.size + 1 - (intOf i).toNat)
    case atStart =>
      refine ⟨[], 0, 0, rfl, rfl, by omega, by omega, hO0, hB0, by simp, fun _ => ⟨?_, by simp, fun j h hj => absurd hj (by omega)⟩, fun h => absurd h (by omega)⟩
      rw [todo_start, List.nil_append]
      rfl
    case round =>
      obtain ⟨L, b, k, rfl, rfl, hbk, hk, hown, hbel, HG⟩ := hrel
      have hsz := hbel.size
      clear hO0 hB0
      by_cases hle : k ≤ s.size
      · have HG2 := Lib.hid (HG.out.2.1 hle)
        by_cases hlt : k < s.size
        · obtain ⟨x, hx⟩ : ∃ x : Int, (s[k].toNat : Int) = x := ⟨_, rfl⟩
          by_cases hp : 32 ≤ x ∧ x ≤ 126
          · have hpr : Hid (Prn s[k]) := by unfold Hid Prn; omega
            obtain ⟨p1, p2⟩ := hp
            by_cases h32 : x = 32
            · have hx32 : (x != 32) = false := by simpa using h32
              have h32n : Hid (s[k].toNat = 32) := by unfold Hid; omega
              by_cases hlb : b < k
              · have HN := Lib.hid (goes2_word hlb hlt hpr.out h32n.out HG2.out)
                have hlb' : (b : Int) < (k : Int) := by omega
                have hLl : L.length + 1 ≤ 100000000 := by have := HG.out.1; omega
                have HLk : Hid (L.length + 1 ≤ 601) := by have := HG2.out.2.1; have := HS6.out; unfold Hid; omega
                clear HG HG2 h32 hpr h32n
                go_wp2_with (at_builtin; refine wpList_pushS rfl hown _ _ _ rfl rfl rfl hLl hsz ?_; intro v3 w3 hown3 hb3)
                have hb4 := hbel.trans hb3
                go_roundw
                case rel => exact ⟨_, k + 1, k + 1, by go_num, by go_num, by omega, by omega, hown3, hb4, by have := HLk.out; simp; omega, fun _ => HN.out, fun h => absurd h (by omega)⟩
                case measure => (simp [intOf]; try omega)
              · obtain rfl : b = k := by omega
                have HN := Lib.hid (goes2_space hlt hpr.out h32n.out HG2.out)
                have HLk : Hid (L.length ≤ 601) := HG.out.1
                clear HG HG2 h32 hpr h32n
                go_wp2_with fail
                go_roundw
                case rel => exact ⟨L, b + 1, b + 1, by go_num, by go_num, by omega, by omega, hown, hbel, HLk.out, fun _ => HN.out, fun h => absurd h (by omega)⟩
                case measure => (simp [intOf]; try omega)
            · have hx32 : (x != 32) = true := by simpa using h32
              have HN := Lib.hid (goes2_more hbk hlt hpr.out (by omega) HG2.out)
              have HLk : Hid (L.length ≤ 601) := HG.out.1
              clear HG HG2 h32 hpr
              go_wp2_with fail
              go_roundw
              case rel => exact ⟨L, b, k + 1, by go_num, rfl, by omega, by omega, hown, hbel, HLk.out, fun _ => HN.out, fun h => absurd h (by omega)⟩
              case measure => (simp [intOf]; try omega)
          · have HU : Hid (R = ([], false)) := by
              rw [← HR.out]
              refine parts_no fun h => ?_
              obtain ⟨hk2, e⟩ := at_list hlt
              have := h.2 _ (List.getElem_mem hk2)
              rw [e] at this
              unfold Prn at this
              omega
            have hp2 : x < 32 ∨ (32 ≤ x ∧ 126 < x) := by omega
            have hON : Hid (OwnS (wr.alloc (.cells #[] 9)) w.heap.size (.slice (some ⟨wr.heap.size, 0, none⟩) 0 0) []) := OwnS.made wr _ hsz
            have hBN : Hid (Below w.heap.size w (wr.alloc (.cells #[] 9))) := hbel.alloc hsz _
            clear HG HG2 hp
            rcases hp2 with h1 | ⟨h1, h2⟩
            all_goals
              go_wp2_with fail
              go_ret2
              rw [HU.out]
              exact ⟨_, rfl, hON.out, hBN.out⟩
        · obtain rfl : k = s.size := by omega
          by_cases hlb : b < s.size
          · have HN := Lib.hid (done_last HS6.out hlb HG2.out)
            have hlb' : (b : Int) < (s.size : Int) := by omega
            have hLl : L.length + 1 ≤ 100000000 := by have := HG.out.1; omega
            have HLk : Hid (L.length + 1 ≤ 601) := by have := HG2.out.2.1; have := HS6.out; unfold Hid; omega
            clear HG HG2
            go_wp2_with (at_builtin; refine wpList_pushS rfl hown _ _ _ rfl rfl rfl hLl hsz ?_; intro v3 w3 hown3 hb3)
            have hb4 := hbel.trans hb3
            go_roundw
            case rel => exact ⟨_, s.size + 1, s.size + 1, by go_num, by go_num, by omega, by omega, hown3, hb4, by have := HLk.out; simp; omega, fun h => absurd h (by omega), fun _ => HN.out⟩
            case measure => (simp [intOf]; try omega)
          · obtain rfl : b = s.size := by omega
            have HN := Lib.hid (done_none HS6.out HG2.out)
            have HLk : Hid (L.length ≤ 601) := HG.out.1
            clear HG HG2
            go_wp2_with fail
            go_roundw
            case rel => exact ⟨L, s.size + 1, s.size + 1, by go_num, by go_num, by omega, by omega, hown, hbel, HLk.out, fun h => absurd h (by omega), fun _ => HN.out⟩
            case measure => (simp [intOf]; try omega)
      · have HD := Lib.hid (HG.out.2.2 (by omega))
        obtain ⟨A, cp, rfl, hcells⟩ := hown.form
        have HO := Lib.hid hown
        have hle' : ¬ (k : Int) ≤ (s.size : Int) := by omega
        obtain ⟨n, hn⟩ : ∃ n, L.length = n := ⟨_, rfl⟩
        have HN := Lib.hid hn
        have HLk : Hid (n ≤ 601) := by rw [← hn]; exact HG.out.1
        rw [hn]
        clear HG hcells hown hn
        by_cases h12 : (12 : Int) < (n : Int)
        · have HU : Hid (R = ([], false)) := by rw [← HR.out]; exact parts_many (by rw [← HD.out.1, HN.out]; omega)
          have hON : Hid (OwnS (wr.alloc (.cells #[] 9)) w.heap.size (.slice (some ⟨wr.heap.size, 0, none⟩) 0 0) []) := OwnS.made wr _ hsz
          have hBN : Hid (Below w.heap.size w (wr.alloc (.cells #[] 9))) := hbel.alloc hsz _
          go_wp2_with fail
          go_ret2
          rw [HU.out]
          exact ⟨_, rfl, hON.out, hBN.out⟩
        · have HU : Hid (R = (L, true)) := by rw [← HR.out, parts_ok HD.out.2 (by rw [← HD.out.1, HN.out]; omega), HD.out.1]; exact rfl
          have HO2 : Hid (OwnS wr w.heap.size (.slice A n cp) L) := by have := HO.out; rw [HN.out] at this; exact this
          go_wp2_with fail
          go_ret2
          rw [HU.out]
          exact ⟨_, rfl, HO2.out, hbel⟩
end Go.Proofs.YtedmfoogllekeaaDoor
