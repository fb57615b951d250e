/- The examples of layer 4: 'works' answers true. -/
import Derived.Test.YtknigkjbnaoldaaDoorGrQ
import Derived.Test.YtknigkjbnaoldaaDoorGrC
namespace Go.Proofs.YtknigkjbnaoldaaDoor
open Go.RowKit

/-- a call that reads a text: its answer written out -/
theorem parse_at (s : ByteArray) (n : Int) (l : List Edg) (k : Nat) (e0 : Int) (w : World) (hs : s.size ≤ 262144) (hF : Firsts w) (h : docG s = ((n, l), k, e0)) :
    Calls Tryd.prog 10 #[.string s] w fun R w' => ∃ A c, R = .returned (.tuple #[.agg #[.int .i64 n, .slice A l.length c], .int .i64 k, .int .i64 e0]) ∧ Rs edgC 3 w' A l ∧ Below w.heap.size w w' := by
  refine (parse_doc s w hs hF).mono ?_
  rw [h]
  rintro R w' ⟨hb, A, c, hR, _, ho⟩
  exact ⟨A, c, hR, Rs.of_own ho, hb⟩
theorem print_at' (w : World) (n : Int) (A : Option Addr) (c : Nat) (l : List Edg) (t : ByteArray) (k : Int) (h : Rs edgC 3 w A l) (hF : Firsts w) (h1 : printE (n, l) = t) (h2 : checkL (n, l) = k) :
    Calls Tryd.prog 21 #[.agg #[.int .i64 n, .slice A l.length c]] w fun R w' => R = .returned (.tuple #[.string t, .int .i64 k]) ∧ Below w.heap.size w w' := by
  refine (pPrint_any w n A c l h hF).mono ?_
  rintro R w' ⟨hR, hb⟩
  exact ⟨by rw [hR, h1, h2], hb⟩
theorem out_at (w : World) (n v : Int) (A : Option Addr) (c : Nat) (l m : List Edg) (h : Rs edgC 3 w A l) (hl : l.length ≤ 1000000000) (h1 : outL l v = m) :
    Calls Tryd.prog 14 #[.agg #[.int .i64 n, .slice A l.length c], .int .i64 v] w fun R w' => ∃ A c, R = .returned (.slice A m.length c) ∧ Rs edgC 3 w' A m ∧ Below w.heap.size w w' := by
  refine (pOut_any w n v A c l h hl).mono ?_
  rw [h1]
  rintro R w' ⟨r, rfl, ho, hb⟩
  obtain ⟨A', c', rfl, _⟩ := own_parts ho
  exact ⟨A', c', rfl, Rs.of_own ho, hb⟩
theorem back_at (w : World) (n v : Int) (A : Option Addr) (c : Nat) (l m : List Edg) (h : Rs edgC 3 w A l) (hl : l.length ≤ 1000000000) (h1 : backL l v = m) :
    Calls Tryd.prog 15 #[.agg #[.int .i64 n, .slice A l.length c], .int .i64 v] w fun R w' => ∃ A c, R = .returned (.slice A m.length c) ∧ Rs edgC 3 w' A m ∧ Below w.heap.size w w' := by
  refine (pBack_any w n v A c l h hl).mono ?_
  rw [h1]
  rintro R w' ⟨r, rfl, ho, hb⟩
  obtain ⟨A', c', rfl, _⟩ := own_parts ho
  exact ⟨A', c', rfl, Rs.of_own ho, hb⟩
/-- a call of Parse's that ends so -/
def Got (w : World) (n : Int) (l : List Edg) (m : Nat) (k e : Int) (R : Ending) (w' : World) : Prop :=
  ∃ A c, R = .returned (.tuple #[.agg #[.int .i64 n, .slice A m c], .int .i64 k, .int .i64 e]) ∧ Rs edgC 3 w' A l ∧ Below w.heap.size w w'
theorem got1 (w : World) (hF : Firsts w) : Calls Tryd.prog 10 #[.string ⟨#[118, 101, 114, 116, 105, 99, 101, 115, 32, 51, 10, 98, 111, 116, 104, 32, 48, 32, 50, 32, 53, 10, 101, 100, 103, 101, 32, 49, 32, 48, 10]⟩] w (Got w 3 [(0, 2, 5), (1, 0, 1), (2, 0, 5)] 3 0 0) := parse_at x1T 3 [(0, 2, 5), (1, 0, 1), (2, 0, 5)] 0 0 w (by decide) hF x1
theorem got2 (w : World) (hF : Firsts w) : Calls Tryd.prog 10 #[.string ⟨#[118, 101, 114, 116, 105, 99, 101, 115, 32, 50, 10, 101, 100, 103, 101, 32, 48, 32, 49, 10, 101, 100, 103, 101, 32, 48, 32, 49, 32, 57]⟩] w (Got w 0 [] 0 3 41) := parse_at x2T 0 [] 3 41 w (by decide) hF x2
theorem got3 (w : World) (hF : Firsts w) : Calls Tryd.prog 10 #[.string ⟨#[118, 101, 114, 116, 105, 99, 101, 115, 32, 50, 10, 101, 100, 103, 101, 32, 48, 32, 50]⟩] w (Got w 0 [] 0 2 41) := parse_at x3T 0 [] 2 41 w (by decide) hF x3
theorem got4 (w : World) (hF : Firsts w) : Calls Tryd.prog 10 #[.string ⟨#[]⟩] w (Got w 0 [] 0 1 41) := parse_at ⟨#[]⟩ 0 [] 1 41 w (by decide) hF x4
theorem got5 (w : World) (A : Option Addr) (c : Nat) (h : Rs edgC 3 w A [(0, 2, 5), (1, 0, 1), (2, 0, 5)]) (hF : Firsts w) :
    Calls Tryd.prog 21 #[.agg #[.int .i64 3, .slice A 3 c]] w fun R w' => R = .returned (.tuple #[.string x5T, .int .i64 0]) ∧ Below w.heap.size w w' := print_at' w 3 A c [(0, 2, 5), (1, 0, 1), (2, 0, 5)] x5T 0 h hF x5 x6
theorem got6 (w : World) (A : Option Addr) (c : Nat) (h : Rs edgC 3 w A [(0, 2, 5), (1, 0, 1), (2, 0, 5)]) :
    Calls Tryd.prog 14 #[.agg #[.int .i64 3, .slice A 3 c], .int .i64 0] w fun R w' => ∃ A c, R = .returned (.slice A 1 c) ∧ Rs edgC 3 w' A [(0, 2, 5)] ∧ Below w.heap.size w w' := out_at w 3 0 A c [(0, 2, 5), (1, 0, 1), (2, 0, 5)] [(0, 2, 5)] h (by decide) x7
theorem got7 (w : World) (A : Option Addr) (c : Nat) (h : Rs edgC 3 w A [(0, 2, 5), (1, 0, 1), (2, 0, 5)]) :
    Calls Tryd.prog 15 #[.agg #[.int .i64 3, .slice A 3 c], .int .i64 0] w fun R w' => ∃ A c, R = .returned (.slice A 2 c) ∧ Rs edgC 3 w' A [(1, 0, 1), (2, 0, 5)] ∧ Below w.heap.size w w' := back_at w 3 0 A c [(0, 2, 5), (1, 0, 1), (2, 0, 5)] [(1, 0, 1), (2, 0, 5)] h (by decide) x8
/-- the state of 'works' -/
structure WSt (w wr : World) (g : Nat) (A : Option Addr) (c : Nat) : Prop where
  below : Below w.heap.size w wr
  box : Blk wr g 25 #[.int .i64 3, .slice A 3 c]
  row : Rs edgC 3 wr A [(0, 2, 5), (1, 0, 1), (2, 0, 5)]
theorem WSt.alloc {w wr : World} {g : Nat} {A : Option Addr} {c : Nat} (h : WSt w wr g A c) (o : Obj) : WSt w (wr.alloc o) g A c := ⟨h.below.alloc h.below.size o, h.box.alloc o, h.row.alloc o⟩
theorem WSt.step {w wr w' : World} {g : Nat} {A : Option Addr} {c : Nat} (h : WSt w wr g A c) (hb : Below wr.heap.size wr w') : WSt w w' g A c := ⟨h.below.trans (hb.mono h.below.size), h.box.below hb h.box.lt, h.row.below hb⟩
theorem edg_pl : Tryd.prog.eqGuardType Tryd.prog.depth 35 = false := edg_guard
set_option maxRecDepth 100000 in
set_option maxHeartbeats 4000000 in
theorem works_any (w : World) (hF : Firsts w) : Calls Tryd.prog 9 #[] w fun e w' => e = .returned (.bool true) ∧ Below w.heap.size w w' := by
  have hz := firsts_lt hF
  have HF := Lib.hid hF
  have q1 : ∀ w, (binOp .eql 35 (.agg #[.int .i64 1, .int .i64 0, .int .i64 1]) (.agg #[.int .i64 1, .int .i64 0, .int .i64 1])).run Tryd.prog w = .ok (.bool true) w := fun w => run_eql_edg 1 0 1 1 0 1 w
  have q2 := edg_guard
  clear hF
  go_enter Tryd.func9, Tryd.ntmps9
  go_wp2_with fail
  refine (got1 w HF.out).mono ?_
  rintro e y1 ⟨A, c, rfl, hr1, hb1⟩
  have HS : Hid (WSt w (y1.alloc (.cells #[.int .i64 3, .slice A 3 c] 25)) y1.heap.size A c) := Lib.hid ⟨hb1.alloc hb1.size _, Blk.new y1 _ _, hr1.alloc _⟩
  clear hb1 hr1
  go_wp2_with fail
  refine (got2 _ (firsts_below HF.out HS.out.below hz)).mono ?_
  rintro e y2 ⟨A2, c2, rfl, -, hb2⟩
  have HS2 := Lib.hid ((HS.out.step hb2).alloc (.cells #[.int .i64 0, .slice A2 0 c2] 25))
  clear hb2 HS
  go_wp2_with fail
  refine (got3 _ (firsts_below HF.out HS2.out.below hz)).mono ?_
  rintro e y3 ⟨A3, c3, rfl, -, hb3⟩
  have HS3 := Lib.hid ((HS2.out.step hb3).alloc (.cells #[.int .i64 0, .slice A3 0 c3] 25))
  clear hb3 HS2
  go_wp2_with fail
  refine (got4 _ (firsts_below HF.out HS3.out.below hz)).mono ?_
  rintro e y4 ⟨A4, c4, rfl, -, hb4⟩
  have HS4 := Lib.hid ((HS3.out.step hb4).alloc (.cells #[.int .i64 0, .slice A4 0 c4] 25))
  clear hb4 HS3
  have g0 := HS4.out.box.cell 0; have g1 := HS4.out.box.cell 1
  simp only [List.getElem?_toArray, List.getElem?_cons_zero, List.getElem?_cons_succ] at g0 g1
  go_wp2_with fail
  refine (got5 _ A c HS4.out.row (firsts_below HF.out HS4.out.below hz)).mono ?_
  clear g0 g1
  rintro e y5 ⟨rfl, hb5⟩
  have HS5 := Lib.hid (HS4.out.step hb5)
  clear hb5 HS4
  have g0 := HS5.out.box.cell 0; have g1 := HS5.out.box.cell 1
  simp only [List.getElem?_toArray, List.getElem?_cons_zero, List.getElem?_cons_succ] at g0 g1
  obtain ⟨b, oo, x, rfl, hb, hx, z1, z2, z3⟩ := edg_at HS5.out.row (i := 1) (by decide)
  obtain rfl : x = (1, 0, 1) := by simpa using hx.symm
  unfold x5T
  dsimp only at z1 z2 z3
  clear hx
  simp only [Nat.one_mul] at z1 z2 z3
  go_wp2_with fail
  refine (got6 _ _ c HS5.out.row).mono ?_
  clear g0 g1 z1 z2 z3
  rintro e y6 ⟨A6, c6, rfl, -, hb6⟩
  have HS6 := Lib.hid (HS5.out.step hb6)
  clear hb6 HS5
  have g0 := HS6.out.box.cell 0; have g1 := HS6.out.box.cell 1
  simp only [List.getElem?_toArray, List.getElem?_cons_zero, List.getElem?_cons_succ] at g0 g1
  go_wp2_with fail
  refine (got7 _ _ c HS6.out.row).mono ?_
  clear g0 g1
  rintro e y7 ⟨A7, c7, rfl, -, hb7⟩
  have HS7 := Lib.hid (HS6.out.step hb7)
  clear hb7 HS6
  go_wp2
  go_ret
  exact ⟨rfl, HS7.out.below⟩
end Go.Proofs.YtknigkjbnaoldaaDoor
