/- The disk's look-up: cmp.Compare on strings, slices.BinarySearchFunc over files, find, asked. -/
import Derived.Test.YtmgnpcoihehelaaDiskA
import Derived.Deep.LoopGhost
namespace Go.Proofs.Ytmgnpcoihehelaa
open Go.RowKit

theorem isNaN_any (s : ByteArray) (w : World) : Calls Try.prog 61 #[.string s] w fun e w' => e = .returned (.bool false) ∧ w' = w := by
  have h : (!s.toList == s.toList) = false := by simp
  go_enter Try.func61, Try.ntmps61
  go_wp2
  go_ret
  exact ⟨rfl, rfl⟩
theorem gtr_str (t : TypeId) (a b : ByteArray) : binOp .gtr t (.string a) (.string b) = pure (.bool !(Op.bytesLess a.toList b.toList || a.toList == b.toList)) := by simp [binOp, Op.stringOp]
/-- how two names stand -/
def lessN (s t : ByteArray) : Bool := Op.bytesLess s.toList t.toList
def cmpN (s t : ByteArray) : Int := if lessN s t = true then -1 else if (s.toList == t.toList) = true then 0 else 1
set_option maxHeartbeats 1000000 in
theorem compare_any (s t : ByteArray) (w : World) : Calls Try.prog 47 #[.string s, .string t] w fun e w' => e = .returned (.int .i64 (cmpN s t)) ∧ w' = w := by
  have hg := gtr_str 9 s t
  unfold cmpN lessN
  cases h1 : Op.bytesLess s.toList t.toList with
  | true =>
    go_enter Try.func47, Try.ntmps47
    go_wp2_with (first | (go_at_call 61; refine (isNaN_any _ _).mono ?_; rintro e w' ⟨rfl, rfl⟩))
    go_ret
    exact ⟨by simp, rfl⟩
  | false =>
    rw [h1, Bool.false_or] at hg
    cases h2 : (s.toList == t.toList) with
    | true =>
      rw [h2] at hg
      go_enter Try.func47, Try.ntmps47
      go_wp2_with (first | (go_at_call 61; refine (isNaN_any _ _).mono ?_; rintro e w' ⟨rfl, rfl⟩))
      go_ret
      exact ⟨by simp, rfl⟩
    | false =>
      rw [h2] at hg
      go_enter Try.func47, Try.ntmps47
      go_wp2_with (first | (go_at_call 61; refine (isNaN_any _ _).mono ?_; rintro e w' ⟨rfl, rfl⟩))
      go_ret
      exact ⟨by simp, rfl⟩
set_option maxHeartbeats 1000000 in
theorem clo_any (nm t : ByteArray) (A : Option Addr) (n c : Nat) (sf : Int) (w : World) : Calls Try.prog 46 #[.agg #[.string nm, .slice A n c, .int .i64 sf], .string t] w fun e w' => e = .returned (.int .i64 (cmpN nm t)) ∧ Below w.heap.size w w' := by
  have hb := Blk.new w 61 #[.string nm, .slice A n c, .int .i64 sf]
  have c0 := hb.cell 0
  simp only [List.getElem?_toArray, List.getElem?_cons_zero] at c0
  have HB := Lib.hid ((Below.refl w.heap.size w).alloc (Nat.le_refl _) (.cells #[.string nm, .slice A n c, .int .i64 sf] 61))
  clear hb
  go_enter Try.func46, Try.ntmps46
  go_wp2_with fail
  refine (compare_any _ _ _).mono ?_
  rintro e w' ⟨rfl, rfl⟩
  go_wp2
  go_ret
  exact ⟨rfl, HB.out⟩
/-- the search's road over names -/
def bsGo (l : List ByteArray) (t : ByteArray) : Nat → Nat → Nat → Nat
  | 0, i, _ => i
  | f + 1, i, j => if i < j then (if cmpN (l.getD ((i + j) / 2) ByteArray.empty) t < 0 then bsGo l t f ((i + j) / 2 + 1) j else bsGo l t f i ((i + j) / 2)) else i
def findN (l : List ByteArray) (t : ByteArray) : Nat × Bool :=
  (bsGo l t l.length 0 l.length, decide (bsGo l t l.length 0 l.length < l.length) && cmpN (l.getD (bsGo l t l.length 0 l.length) ByteArray.empty) t == 0)
theorem rcells_at (l : List (FileD × Value)) (i : Nat) (x : FileD × Value) (h : l[i]? = some x) :
    (rcells l)[i * 3]? = some (.string x.1.name) ∧ (rcells l)[i * 3 + 1]? = some x.2 ∧ (rcells l)[i * 3 + 2]? = some (.int .i64 x.1.safe) := by
  have hlt := (List.getElem?_eq_some_iff.1 h).1
  have h1 : l = l.take (i + 1) ++ l.drop (i + 1) := (List.take_append_drop _ _).symm
  have h2 : l.take (i + 1) = l.take i ++ [x] := by rw [List.take_add_one, h]; rfl
  have hl : (rcells (l.take i)).length = i * 3 := by rw [rcells_length, List.length_take]; omega
  have h3 : rcells l = rcells (l.take i) ++ (.string x.1.name :: x.2 :: .int .i64 x.1.safe :: rcells (l.drop (i + 1))) := by
    conv => lhs; rw [h1, h2]
    simp [rcells, fcells]
  rw [h3]
  refine ⟨?_, ?_, ?_⟩ <;> rw [List.getElem?_append_right (by omega), hl]
  · simp
  · rw [show i * 3 + 1 - i * 3 = 1 by omega]; rfl
  · rw [show i * 3 + 2 - i * 3 = 2 by omega]; rfl
/-- a file's cells as they lie -/
theorem RowD.at_ {w w' : World} {base : Nat} {v : Value} {rows : List (FileD × Value)} (h : RowD w base v rows) {i : Nat} (hi : i < rows.length) (hb : Below w.heap.size w w') :
    ∃ g cap x A c, v = .slice (some ⟨g, 0, none⟩) rows.length cap ∧ rows[i]? = some x ∧ x.2 = .slice A x.1.b.size c ∧ g < w.heap.size ∧ w'.cell? ⟨g, i * 3, none⟩ = some (.string x.1.name) ∧ w'.cell? ⟨g, i * 3 + 1, none⟩ = some (.slice A x.1.b.size c) ∧ w'.cell? ⟨g, i * 3 + 2, none⟩ = some (.int .i64 x.1.safe) := by
  obtain ⟨g, cap, hv, hg1, hg2⟩ := h.1.form (by omega)
  have hx : rows[i]? = some rows[i] := List.getElem?_eq_getElem hi
  obtain ⟨A, c, he, _⟩ := h.2 _ (List.mem_of_getElem? hx)
  have hcs := rcells_at rows i _ hx
  subst hv
  have hl := rcells_length rows
  refine ⟨g, cap, rows[i], A, c, rfl, hx, he, hg2, ?_, ?_, ?_⟩
  · exact (hb.cell (p := ⟨g, i * 3, none⟩) hg2).trans ((h.1.cellAt (i * 3) (by omega)).trans hcs.1)
  · exact (hb.cell (p := ⟨g, i * 3 + 1, none⟩) hg2).trans ((h.1.cellAt (i * 3 + 1) (by omega)).trans (by rw [hcs.2.1, he]))
  · exact (hb.cell (p := ⟨g, i * 3 + 2, none⟩) hg2).trans ((h.1.cellAt (i * 3 + 2) (by omega)).trans hcs.2.2)
set_option maxHeartbeats 4000000 in
theorem search_any (w : World) (base : Nat) (v : Value) (rows : List (FileD × Value)) (t : ByteArray) (h : RowD w base v rows) (hlen : rows.length ≤ 4294967296) :
    Calls Try.prog 45 #[v, .string t, .func (.func 46) #[] #[]] w fun e w' =>
      e = .returned (.tuple #[.int .i64 (findN (rows.map (·.1.name)) t).1, .bool (findN (rows.map (·.1.name)) t).2]) ∧ Below w.heap.size w w' := by
  obtain ⟨A, c, rfl⟩ := own_shape h.1
  have H := Lib.hid h
  clear h
  go_enter Try.func45, Try.ntmps45
  go_wp2
  go_loopg [9, 10] rows.length (fun gf vi vj wr => ∃ i j : Nat, vi = .int .i64 i ∧ vj = .int .i64 j ∧ i ≤ j ∧ j ≤ rows.length ∧ j ≤ i + gf ∧ bsGo (rows.map (·.1.name)) t gf i j = bsGo (rows.map (·.1.name)) t rows.length 0 rows.length ∧ Below w.heap.size w wr)
  case atStart => exact ⟨0, rows.length, rfl, rfl, Nat.zero_le _, Nat.le_refl _, by omega, rfl, Below.refl _ _⟩
  case round =>
    obtain ⟨i, j, rfl, rfl, hij, hj, hgf, hbs, hB⟩ := hrel
    by_cases hlt : i < j
    · obtain ⟨gf, rfl⟩ : ∃ gf, gk = gf + 1 := ⟨gk - 1, by omega⟩
      rw [bsGo, if_pos hlt] at hbs
      have hltI : (i : Int) < (j : Int) := by omega
      obtain ⟨m, hm⟩ : ∃ m, (i + j) / 2 = m := ⟨_, rfl⟩
      rw [hm] at hbs
      have hm1 : i ≤ m := by omega
      have hm2 : m < j := by omega
      obtain ⟨g, cap, x, A', c', hv, hx, hx2, hg, c0, c1, c2⟩ := H.out.at_ (i := m) (by omega) hB
      simp only [Value.slice.injEq] at hv
      obtain ⟨rfl, -, rfl⟩ := hv
      have hname : (rows.map (·.1.name)).getD m ByteArray.empty = x.1.name := by rw [List.getD_eq_getElem?_getD, List.getElem?_map, hx]; rfl
      rw [hname] at hbs
      have hmn : m < rows.length := by omega
      have hsh : ((i : Int) + (j : Int)) / 2 = (m : Int) := by omega
      have HBS := Lib.hid hbs; have HBB := Lib.hid hB
      clear hbs hB hx hx2 hname
      go_wp2_with fail
      refine (clo_any _ _ _ _ _ _ _).mono ?_
      rintro e x1 ⟨rfl, hb1⟩
      have HB1 := Lib.hid (HBB.out.trans (hb1.mono HBB.out.size))
      clear hb1
      by_cases hc : cmpN x.1.name t < 0
      · have HBT := HBS.out
        rw [if_pos hc] at HBT
        have HBT := Lib.hid HBT
        clear HBS
        go_wp2_with fail
        go_roundg gf
        case measure => omega
        case rel => exact ⟨m + 1, j, by go_num, rfl, by omega, hj, by omega, HBT.out, HB1.out⟩
      · have HBT := HBS.out
        rw [if_neg hc] at HBT
        have HBT := Lib.hid HBT
        clear HBS
        go_wp2_with fail
        go_roundg gf
        case measure => omega
        case rel => exact ⟨i, m, rfl, rfl, by omega, by omega, by omega, HBT.out, HB1.out⟩
    · obtain rfl : i = j := by omega
      have hbe : bsGo (rows.map (·.1.name)) t gk i i = i := by cases gk <;> simp [bsGo]
      rw [hbe] at hbs
      have hf1 : (findN (rows.map (·.1.name)) t).1 = i := by unfold findN; rw [List.length_map, ← hbs]
      have hf2 : (findN (rows.map (·.1.name)) t).2 = (decide (i < rows.length) && cmpN ((rows.map (·.1.name)).getD i ByteArray.empty) t == 0) := by unfold findN; rw [List.length_map, ← hbs]
      have HF1 := Lib.hid hf1; have HF2 := Lib.hid hf2
      have HBB := Lib.hid hB
      clear hf1 hf2 hbs hbe hB
      by_cases hn : i < rows.length
      · obtain ⟨g, cap, x, A', c', hv, hx, hx2, hg, c0, c1, c2⟩ := H.out.at_ (i := i) hn HBB.out
        simp only [Value.slice.injEq] at hv
        obtain ⟨rfl, -, rfl⟩ := hv
        have hname : (rows.map (·.1.name)).getD i ByteArray.empty = x.1.name := by rw [List.getD_eq_getElem?_getD, List.getElem?_map, hx]; rfl
        have HF3 := HF2.out
        rw [hname] at HF3
        have HF3 := Lib.hid HF3
        have hnI : (i : Int) < (rows.length : Int) := by omega
        clear hname hx hx2 HF2
        go_wp2_with fail
        refine (clo_any _ _ _ _ _ _ _).mono ?_
        rintro e x1 ⟨rfl, hb1⟩
        have HB1 := Lib.hid (HBB.out.trans (hb1.mono HBB.out.size))
        clear hb1
        go_wp2_with fail
        go_ret2
        exact ⟨by rw [HF1.out, HF3.out]; simp [hn], HB1.out⟩
      · have hnI : ¬ (i : Int) < (rows.length : Int) := by omega
        go_wp2_with fail
        go_ret2
        exact ⟨by rw [HF1.out, HF2.out]; simp [hn], HBB.out⟩
end Go.Proofs.Ytmgnpcoihehelaa
