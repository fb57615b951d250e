/- GraphParse: any text is the graph that the document says. -/
import Derived.Test.YtknigkjbnaoldaaDoorGrWk
namespace Go.Proofs.YtknigkjbnaoldaaDoor
open Go.RowKit

theorem doc_few (s : ByteArray) : (docG s).1.2.length ≤ 8192 := by
  have h := (text_rel numW wordsP (linesP s)).2
  have h1 := h.perm.length_eq
  have h2 := h.few
  unfold docG
  omega
/-- a text that is read, by both: the same answer, as a list of edges -/
def Reads2 (n k e : Int) (l : List Edg) (w : World) (R : Ending) (w' : World) : Prop :=
  ∃ A c, R = .returned (.tuple #[.agg #[.int .i64 n, .slice A l.length c], .int .i64 k, .int .i64 e]) ∧ Rs edgC 3 w' A l ∧ Below w.heap.size w w'
theorem reads2 (s : ByteArray) (hs : s.size ≤ 262144) : ∃ (n k e : Int) (l : List Edg), docG s = ((n, l), k.toNat, e) ∧ 0 ≤ k ∧ l.length ≤ 8192 ∧
    (∀ w, Firsts w → Calls Tryd.prog 10 #[.string s] w (Reads2 n k e l w)) ∧
    (∀ w, Calls Tryd.prog 11 #[.string s] w (Reads2 n k e l w)) := by
  refine ⟨(docG s).1.1, (docG s).2.1, (docG s).2.2, (docG s).1.2, by simp, by omega, doc_few s, fun w hF => ?_, fun w => ?_⟩
  · refine (parse_doc s w hs hF).mono ?_
    rintro R w' ⟨hb, A, c, hR, _, ho⟩
    exact ⟨A, c, hR, Rs.of_own ho, hb⟩
  · refine (rparse_doc s w hs).mono ?_
    rintro R w' ⟨hb, A, c, hR, _, ho⟩
    exact ⟨A, c, hR, Rs.of_own ho, hb⟩
theorem same_true (w : World) (n : Int) (A B : Option Addr) (c d : Nat) (xs : List Edg) (ha : Rs edgC 3 w A xs) (hb : Rs edgC 3 w B xs) (hn : xs.length ≤ 8192) :
    Calls Tryd.prog 12 #[.agg #[.int .i64 n, .slice A xs.length c], .agg #[.int .i64 n, .slice B xs.length d]] w fun e w' => e = .returned (.bool true) ∧ Below w.heap.size w w' := by
  have := refSame_any w n n A B c d xs xs ha hb (by omega)
  rwa [decide_eq_true (show n = n ∧ xs = xs from ⟨rfl, rfl⟩)] at this
set_option maxRecDepth 100000 in
set_option maxHeartbeats 4000000 in
theorem lawParse_any (s : ByteArray) (w : World) (hF : Firsts w) :
    Calls Tryd.prog 3 #[.string s] w fun e w' => e = .returned (.bool true) ∧ Below w.heap.size w w' := by
  have hB := Below.refl w.heap.size w
  have hz := firsts_lt hF
  by_cases hl : 1500 < s.size
  · have HW := Lib.hid (works_any w hF)
    clear hF
    go_enter Tryd.func3, Tryd.ntmps3
    go_wp2_with fail
    refine HW.out.mono ?_
    rintro e x1 ⟨rfl, hb1⟩
    have HB := Lib.hid hb1
    clear hb1
    go_wp2
    go_ret
    exact ⟨rfl, HB.out⟩
  · obtain ⟨n, k, er, l, _, _, hl8, hp, hr⟩ := reads2 s (by omega)
    have HP := Lib.hid hp; have HR := Lib.hid hr; have HF := Lib.hid hF; have HB := Lib.hid hB
    clear hp hr hF hB
    go_enter Tryd.func3, Tryd.ntmps3
    go_wp2_with fail
    refine (HP.out w HF.out).mono ?_
    clear HP
    rintro e x1 ⟨A, c, rfl, hr1, hb1⟩
    have hB1 := (HB.out.trans hb1).alloc hb1.size (.cells #[.int .i64 n, .slice A l.length c] 25)
    have hk1 := Blk.new x1 25 #[.int .i64 n, .slice A l.length c]
    have HB1 := Lib.hid hB1; have HK1 := Lib.hid hk1; have HR1 := Lib.hid (hr1.alloc (.cells #[.int .i64 n, .slice A l.length c] 25))
    clear hB1 hk1 hr1 hb1 HB
    go_wp2_with fail
    refine (HR.out _).mono ?_
    clear HR
    rintro e x2 ⟨A2, c2, rfl, hr2, hb2⟩
    have hB2 := (HB1.out.trans (hb2.mono HB1.out.size)).alloc (HB1.out.trans (hb2.mono HB1.out.size)).size (.cells #[.int .i64 n, .slice A2 l.length c2] 25)
    have hk1 := (HK1.out.below hb2 HK1.out.lt).alloc (.cells #[.int .i64 n, .slice A2 l.length c2] 25)
    have hk2 := Blk.new x2 25 #[.int .i64 n, .slice A2 l.length c2]
    have hr1 := (HR1.out.below hb2).alloc (.cells #[.int .i64 n, .slice A2 l.length c2] 25)
    have hr2 := hr2.alloc (.cells #[.int .i64 n, .slice A2 l.length c2] 25)
    have g0 := hk1.cell 0; have g1 := hk1.cell 1; have y0 := hk2.cell 0; have y1 := hk2.cell 1
    simp only [List.getElem?_toArray, List.getElem?_cons_zero, List.getElem?_cons_succ] at g0 g1 y0 y1
    have hlt : x1.heap.size < x2.heap.size := by have := hb2.size; simp at this; omega
    have HS := Lib.hid (same_true _ n A A2 c c2 l hr1 hr2 hl8)
    have HB2 := Lib.hid hB2
    clear hB2 hk1 hk2 hr1 hr2 hb2 HB1 HK1 HR1
    rw [World.cell?_alloc_lt x2 _ ⟨x1.heap.size, 0, none⟩ hlt] at g0
    rw [World.cell?_alloc_lt x2 _ ⟨x1.heap.size, 1, none⟩ hlt] at g1
    go_wp2_with fail
    refine HS.out.mono ?_
    clear HS g0 g1 y0 y1
    rintro e x3 ⟨rfl, hb3⟩
    have HB3 := Lib.hid (HB2.out.trans (hb3.mono HB2.out.size))
    clear hb3 HB2
    go_wp2_with fail
    refine (works_any x3 (firsts_below HF.out HB3.out hz)).mono ?_
    rintro e x4 ⟨rfl, hb4⟩
    have HB4 := Lib.hid (HB3.out.trans (hb4.mono HB3.out.size))
    clear hb4
    go_wp2
    go_ret
    exact ⟨rfl, HB4.out⟩
end Go.Proofs.YtknigkjbnaoldaaDoor
